/-
  Package wal: a log in memory.
  Conditions: none beyond each lemma's own premises.
-/
import Derived.Test.YtjhinifmdjlblaaGreatWalPlain
import Derived.Test.YtjhinifmdjlblaaGreatSum3
import Derived.Test.YtjhinifmdjlblaaGreatWire7B
import Derived.Test.YtjhinifmdjlblaaGreatDisk12
namespace Go.Proofs.YtjhinifmdjlblaaGreat
open Go.RowKit

/-- A log, in plain words. -/
structure Lg where
  recs : List ByteArray
  groups : Nat
  size : Nat
  broken : Bool
/-- A log in block g, of the disk in block c; S are its blocks. -/
def LogAt (g c : Nat) (S : List Nat) (nm : ByteArray) (st : Lg) (w : World) : Prop :=
  ∃ v, S = g :: v.ownBlock.toList ∧ w.heap[g]? = some (.cells #[.pointer (some ⟨c, 0, none⟩), .string nm, v, .int .i64 st.groups, .int .i64 st.size, .bool st.broken] 73 (0, 0)) ∧ w.ownsRow 0 9 1 v st.recs.length (strs st.recs) ∧ v.ownBlock ≠ some g
section
variable {g c : Nat} {S T T' : List Nat} {nm : ByteArray} {st : Lg} {w w' : World}
theorem LogAt.own (h : LogAt g c S nm st w) : g ∈ S := by obtain ⟨v, rfl, _⟩ := h; simp
theorem LogAt.keep (h : LogAt g c S nm st w) (hb : ∀ k, k ∈ S → w'.heap[k]? = w.heap[k]?) : LogAt g c S nm st w' := by
  obtain ⟨v, rfl, h2, h3, h4⟩ := h
  exact ⟨v, rfl, by rw [hb g (by simp)]; exact h2, Wi.ownsRow_keep h3 (fun k hk => hb k (by simp [hk])), h4⟩
theorem LogAt.lt (h : LogAt g c S nm st w) : g < w.heap.size := by obtain ⟨v, _, h2, _⟩ := h; exact Blk.lt h2
theorem LogAt.there (h : LogAt g c S nm st w) : ∀ k, k ∈ S → k < w.heap.size := by
  have h1 := h.lt
  obtain ⟨v, rfl, h2, h3, h4⟩ := h
  intro k hk
  simp only [List.mem_cons, Option.mem_toList] at hk
  rcases hk with rfl | hk
  · exact h1
  · exact (h3.lt k hk).2
theorem LogAt.drewN (h : LogAt g c S nm st w) (n : Nat) : LogAt g c S nm st (w.drewN n) := h
theorem LogAt.alloc (h : LogAt g c S nm st w) (o : Obj) : LogAt g c S nm st (w.alloc o) := h.keep fun k hk => Below.heap_alloc w o k (h.there k hk)
theorem LogAt.below (h : LogAt g c S nm st w) (hb : Below w.heap.size w w') : LogAt g c S nm st w' := h.keep fun k hk => hb.block k (h.there k hk)
theorem LogAt.aside (h : LogAt g c S nm st w) (hm : Mv T T' w w') (ha : ∀ k, k ∈ S → k ∉ T) : LogAt g c S nm st w' := h.keep fun k hk => hm.block k (h.there k hk) (ha k hk)
theorem LogAt.frozen (h : LogAt g c S nm st w) (i : Nat) : w.frozen? ⟨g, i, none⟩ = false := by obtain ⟨v, _, hb, _⟩ := h; exact Lib.frozen_of_heap hb i
theorem LogAt.cell0 (h : LogAt g c S nm st w) : w.cell? ⟨g, 0, none⟩ = some (.pointer (some ⟨c, 0, none⟩)) := by obtain ⟨v, _, h2, _⟩ := h; rw [Lib.cell_of_heap h2]; rfl
theorem LogAt.cell1 (h : LogAt g c S nm st w) : w.cell? ⟨g, 1, none⟩ = some (.string nm) := by obtain ⟨v, _, h2, _⟩ := h; rw [Lib.cell_of_heap h2]; rfl
theorem LogAt.cell3 (h : LogAt g c S nm st w) : w.cell? ⟨g, 3, none⟩ = some (.int .i64 st.groups) := by obtain ⟨v, _, h2, _⟩ := h; rw [Lib.cell_of_heap h2]; rfl
theorem LogAt.cell4 (h : LogAt g c S nm st w) : w.cell? ⟨g, 4, none⟩ = some (.int .i64 st.size) := by obtain ⟨v, _, h2, _⟩ := h; rw [Lib.cell_of_heap h2]; rfl
theorem LogAt.cell5 (h : LogAt g c S nm st w) : w.cell? ⟨g, 5, none⟩ = some (.bool st.broken) := by obtain ⟨v, _, h2, _⟩ := h; rw [Lib.cell_of_heap h2]; rfl
/-- The number of groups turned; the bytes; broken. -/
theorem LogAt.set3 (h : LogAt g c S nm st w) (x : Nat) : LogAt g c S nm { st with groups := x } (w.setCell ⟨g, 3, none⟩ (.int .i64 x)) := by
  obtain ⟨v, rfl, h2, h3, h4⟩ := h
  exact ⟨v, rfl, Blk.set_ (show Blk w g 73 _ from h2) 3 _, Wi.ownsRow_keep h3 (fun k hk => Below.heap_setCell _ _ _ _ (fun e => h4 (by rw [hk]; exact congrArg some e))), h4⟩
theorem LogAt.set4 (h : LogAt g c S nm st w) (x : Nat) : LogAt g c S nm { st with size := x } (w.setCell ⟨g, 4, none⟩ (.int .i64 x)) := by
  obtain ⟨v, rfl, h2, h3, h4⟩ := h
  exact ⟨v, rfl, Blk.set_ (show Blk w g 73 _ from h2) 4 _, Wi.ownsRow_keep h3 (fun k hk => Below.heap_setCell _ _ _ _ (fun e => h4 (by rw [hk]; exact congrArg some e))), h4⟩
theorem LogAt.set5 (h : LogAt g c S nm st w) (x : Bool) : LogAt g c S nm { st with broken := x } (w.setCell ⟨g, 5, none⟩ (.bool x)) := by
  obtain ⟨v, rfl, h2, h3, h4⟩ := h
  exact ⟨v, rfl, Blk.set_ (show Blk w g 73 _ from h2) 5 _, Wi.ownsRow_keep h3 (fun k hk => Below.heap_setCell _ _ _ _ (fun e => h4 (by rw [hk]; exact congrArg some e))), h4⟩
/-- The row of records turned: a row of its own that is not the log's block. -/
theorem LogAt.set2 (h : LogAt g c S nm st w) {v : Value} {rs : List ByteArray} (ho : w.ownsRow 0 9 1 v rs.length (strs rs)) (hn : v.ownBlock ≠ some g) : LogAt g c (g :: v.ownBlock.toList) nm { st with recs := rs } (w.setCell ⟨g, 2, none⟩ v) := by
  obtain ⟨v0, rfl, h2, h3, h4⟩ := h
  exact ⟨v, rfl, Blk.set_ (show Blk w g 73 _ from h2) 2 _, Wi.ownsRow_keep ho (fun k hk => Below.heap_setCell _ _ _ _ (fun e => hn (by rw [hk]; exact congrArg some e))), hn⟩
end
end Go.Proofs.YtjhinifmdjlblaaGreat
