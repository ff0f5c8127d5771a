/-
  Package disk as contracts: Read, New, On, Ops, Fuse, Restore.
  Conditions: disks that the call has made; texts that are in memory.
-/
import Derived.Test.YtfmbadinfhpihaaGreatDisk8
namespace Go.Proofs.YtfmbadinfhpihaaGreat
open Go.RowKit Go.Maps
set_option maxRecDepth 100000

def readD (st : Dk) (s : ByteArray) : ByteArray × Int := if st.on = true then ((fileAt st.fs s).1, lacksD st s) else (⟨#[]⟩, 14)
set_option maxHeartbeats 1000000 in
theorem read_any (c b : Nat) (st : Dk) (hg : GoodF st.fs) (s : ByteArray) (hs : s.size ≤ 9223372036854775807) (w : World) (h : DkAt c b st w) :
    Calls Tryz.prog 19 #[.pointer (some ⟨c, 0, none⟩), .string s] w fun e w' => e = .returned (.tuple #[.string (readD st s).1, .int .i64 (readD st s).2]) ∧ Below w.heap.size w w' := by
  have hclt := h.lt
  have hblt := h.ltb
  have c4 := h.cell4
  have H1 := Lib.hid (off_any c b st w h)
  have HL := Lib.hid (lacks_any c b st hg s hs w.drew h)
  have hl0 := run_look (show (w.drew).ownsMap Tryz.prog 9 fileE b (Maps.size st.fs) st.fs from h.2.1) hg hs
  have hl := fun (W : World) (e : W.heap[b]? = w.heap[b]?) => run_look (own_keep h.2.1 e) hg hs
  unfold readD
  obtain ⟨on, hon⟩ : ∃ x, st.on = x := ⟨_, rfl⟩
  obtain ⟨y, hy⟩ : ∃ y, fileAt st.fs s = y := ⟨_, rfl⟩
  obtain ⟨z, hz⟩ : ∃ z, lacksD st s = z := ⟨_, rfl⟩
  rw [hon] at H1 ⊢
  rw [hy] at hl hl0 ⊢
  rw [hz] at HL ⊢
  have HRun := Lib.hid hl
  clear h hon hy hz hl
  cases on
  · rw [if_neg (show ¬ (false = true) by decide)]
    go_enter Tryz.func19, Tryz.ntmps19
    go_wp2_with fail
    refine H1.out.mono ?_
    rintro e w1 ⟨rfl, rfl⟩
    go_wp2
    go_ret2
    exact ⟨rfl, Below.refl _ _⟩
  · rw [if_pos rfl]
    have hfl : ∀ W : World, (Instr.field 108 (.agg #[.string y.1, .int .i64 y.2]) 0).run Tryz.prog W = .ok (.string y.1) W := fun _ => by kernel_rfl
    go_enter Tryz.func19, Tryz.ntmps19
    go_wp2_with fail
    refine H1.out.mono ?_
    rintro e w1 ⟨rfl, rfl⟩
    go_wp2
    go_region_held3 (fun W => W.cell? ⟨c, 4, none⟩ = some (.map (some b)))
      (first | exact c4 | exact (hb2.cell (show (⟨c, 4, none⟩ : Addr).block < _ from hclt)).trans c4)
      (first | (go_at_call 54; refine HL.out.mono ?_; rintro e w2 ⟨rfl, hb2⟩; have hl2 := HRun.out w2 (hb2.block b hblt)))
    all_goals
      have HB : Hid (Below w.heap.size w w2) := by show Below _ _ _; exact (Below.refl w.heap.size w).drew.trans hb2
      go_wp2
      go_ret2
      exact ⟨rfl, HB.out⟩
def newDk : Dk := ⟨true, false, 0, 0, .map []⟩
theorem newDk_ok : newDk.Ok := ⟨goodF_none, by decide, by decide, by decide, by decide, by decide, by decide⟩
set_option maxHeartbeats 1000000 in
theorem new_any (w : World) :
    Calls Tryz.prog 15 #[] w fun e w' => ∃ c b, e = .returned (.pointer (some ⟨c, 0, none⟩)) ∧ DkAt c b newDk w' ∧ w.heap.size ≤ c ∧ w.heap.size ≤ b ∧ Below w.heap.size w w' := by
  have hmm := @run_makeMap Tryz.prog
  go_enter Tryz.func15, Tryz.ntmps15
  go_wp2
  go_ret
  have hm := World.ownsMap_made (H := Unit) w Tryz.prog 9 fileE
  have he : (w.alloc (Obj.map #[] 0)).heap.size = w.heap.size + 1 := by simp
  refine ⟨w.heap.size + 1, w.heap.size, rfl, ⟨?_, hm.alloc _, by omega⟩, by omega, Nat.le_refl _, ?_⟩
  · rw [← he]
    exact heap_alloc_new _ _
  · exact ((Below.refl _ _).alloc (Nat.le_refl _) _).alloc (by simp) _
theorem on_any (c b : Nat) (st : Dk) (w : World) (h : DkAt c b st w) :
    Calls Tryz.prog 72 #[.pointer (some ⟨c, 0, none⟩)] w fun e w' => e = .returned (.bool st.on) ∧ w = w' := by
  have c0 := h.cell0
  clear h
  obtain ⟨on, fused, left, ops, fs⟩ := st
  go_enter Tryz.func72, Tryz.ntmps72
  go_wp2
  go_ret
  exact ⟨rfl, rfl⟩
theorem ops_any (c b : Nat) (st : Dk) (w : World) (h : DkAt c b st w) :
    Calls Tryz.prog 21 #[.pointer (some ⟨c, 0, none⟩)] w fun e w' => e = .returned (.int .i64 st.ops) ∧ w = w' := by
  have c3 := h.cell3
  clear h
  obtain ⟨on, fused, left, ops, fs⟩ := st
  go_enter Tryz.func21, Tryz.ntmps21
  go_wp2
  go_ret
  exact ⟨rfl, rfl⟩
def fuseD (st : Dk) (n : Int) : Dk := ⟨st.on, decide (0 ≤ n), n, st.ops, st.fs⟩
theorem fuse_any (c b : Nat) (st : Dk) (n : Int) (w : World) (h : DkAt c b st w) :
    Calls Tryz.prog 22 #[.pointer (some ⟨c, 0, none⟩), .int .i64 n] w fun e w' => e = .returned (.tuple #[]) ∧ DkAt c b (fuseD st n) w' ∧ Mv [c] [c] w w' := by
  have c1 := h.cell1; have c2 := h.cell2
  have f1 := h.frozen 1; have f2 := h.frozen 2
  have H := Lib.hid h
  clear h
  go_enter Tryz.func22, Tryz.ntmps22
  go_wp2
  go_end0
  exact ⟨rfl, (H.out.set1 _).set2 _, (mv_cell 1 _).trans (mv_cell 2 _)⟩
def restoreD (st : Dk) : Dk := ⟨true, st.fused, st.left, st.ops, st.fs⟩
theorem restore_any (c b : Nat) (st : Dk) (w : World) (h : DkAt c b st w) :
    Calls Tryz.prog 24 #[.pointer (some ⟨c, 0, none⟩)] w fun e w' => e = .returned (.tuple #[]) ∧ DkAt c b (restoreD st) w' ∧ Mv [c] [c] w w' := by
  have c0 := h.cell0; have c4 := h.cell4
  have f0 := h.frozen 0
  have hn := map_nil w (some b)
  have H := Lib.hid h
  clear h
  go_enter Tryz.func24, Tryz.ntmps24
  go_wp2
  go_end0
  exact ⟨rfl, H.out.set0 _, mv_cell 0 _⟩
end Go.Proofs.YtfmbadinfhpihaaGreat
