/-
  Chapter 2's Own as a contract.
  Conditions: texts in lists that the call reads.
-/
import Derived.Test.YtlniafpbkhkkaaaGreatNameShort
namespace Go.Proofs.YtlniafpbkhkkaaaGreat
open Go.RowKit Go.Maps Go.Sort

theorem own_info : (Tryz.prog.info? 56).map (·.size) = some 2 := by kernel_rfl
set_option maxHeartbeats 1000000 in
theorem own_any (o : ByteArray) (ho : o.size ≤ 281474976710656) (l : List ByteArray) (A : Option Addr) (cp : Nat) (w : World) (hD : l.length ≤ 1000000000) (hr : Reads w w.heap.size 1 A l.length (strs l)) (hA : 0 < l.length → ∀ ad, A = some ad → ad.block < w.heap.size) (hs : ∀ s ∈ l, s.size ≤ 281474976710656) :
    Calls Tryz.prog 19 #[.string o, .slice A l.length cp] w fun e w' => e = .returned (.agg #[.pointer (some ⟨w.heap.size + 1, 0, none⟩), .string o]) ∧ SetAt (w.heap.size + 1) (w.heap.size + 2) (setS l) w' ∧ Below w.heap.size w w' := by
  have hc := newset_any l A cp (w.alloc (.cells #[.pointer none, .string ⟨#[]⟩] 56)) hD ((hr.alloc (Nat.le_refl _) _).more (by simp)) (fun h ad e => by have := hA h ad e; simp; omega) hs
  rw [show (w.alloc (.cells #[.pointer none, .string ⟨#[]⟩] 56)).heap.size = w.heap.size + 1 from by simp] at hc
  obtain ⟨n, hn⟩ : ∃ n, l.length = n := ⟨_, rfl⟩
  rw [hn] at hc ⊢
  have hk : (w.alloc (.cells #[.pointer none, .string ⟨#[]⟩] 56)).heap[w.heap.size]? = some (.cells #[.pointer none, .string ⟨#[]⟩] 56 (0, 0)) := heap_alloc_new w _
  have HC := Lib.hid hc; clear hc hr hA hs hn hD
  go_enter Tryz.func19, Tryz.ntmps19
  go_wp2_with fail
  refine HC.out.mono ?_
  rintro e w1 ⟨rfl, h1, h2⟩
  have hz1 := h2.size
  simp only [World.size_alloc] at hz1
  have hk1 := (h2.block w.heap.size (by omega)).trans hk
  have H1 := Lib.hid h1
  have H2 : Hid (Below w.heap.size w w1) := by
    show Below _ _ _
    exact ((Below.refl _ _).alloc (Nat.le_refl _) _).trans (h2.mono (by omega))
  clear h1 h2 hk HC
  go_wp2_with fail
  refine (clone_any o _ ho).mono ?_
  rintro e w2 ⟨rfl, hb2⟩
  have hz2 := hb2.size
  have hk2 := (hb2.block w.heap.size (by omega)).trans hk1
  have c0 : w2.cell? ⟨w.heap.size, 0, none⟩ = some (.pointer none) := by rw [Lib.cell_of_heap hk2]; rfl
  have c1 : w2.cell? ⟨w.heap.size, 1, none⟩ = some (.string ⟨#[]⟩) := by rw [Lib.cell_of_heap hk2]; rfl
  have f0 := Lib.frozen_of_heap hk2 0
  have f1 := Lib.frozen_of_heap hk2 1
  have HS2 := Lib.hid (H1.out.below hb2 H1.out.lt H1.out.ltb)
  have HB2 := Lib.hid (H2.out.trans (hb2.mono H2.out.size))
  have HK2 : Hid (Blk w2 w.heap.size 56 #[.pointer none, .string ⟨#[]⟩]) := hk2
  clear hb2 hk1 hk2
  go_wp2
  have hg : ((w2.setCell ⟨w.heap.size, 0, none⟩ (.pointer (some ⟨w.heap.size + 1, 0, none⟩))).setCell ⟨w.heap.size, 1, none⟩ (.string o)).heap[w.heap.size]? = some (.cells #[.pointer (some ⟨w.heap.size + 1, 0, none⟩), .string o] 56 (0, 0)) := (HK2.out.set_ 0 _).set_ 1 _
  refine bodyPost_ret (results_cell_row rfl _ _ w.heap.size _ _ _ _ rfl hg Tryz.underlying56 rfl own_info) rfl ?_
  have hs := HS2.out
  refine ⟨rfl, ?_, ?_⟩
  · refine hs.keep ?_ ?_
    · rw [Below.heap_setCell _ _ _ _ (show w.heap.size + 1 ≠ w.heap.size by omega), Below.heap_setCell _ _ _ _ (show w.heap.size + 1 ≠ w.heap.size by omega)]
    · rw [Below.heap_setCell _ _ _ _ (show w.heap.size + 1 + 1 ≠ w.heap.size by omega), Below.heap_setCell _ _ _ _ (show w.heap.size + 1 + 1 ≠ w.heap.size by omega)]
  · exact (HB2.out.setCell (p := ⟨w.heap.size, 0, none⟩) (Nat.le_refl _) _).setCell (p := ⟨w.heap.size, 1, none⟩) (Nat.le_refl _) _
end Go.Proofs.YtlniafpbkhkkaaaGreat
