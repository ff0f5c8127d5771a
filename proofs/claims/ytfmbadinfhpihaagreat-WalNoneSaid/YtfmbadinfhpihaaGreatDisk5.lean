/-
  Package disk as contracts: what the closures of Sync and Rename do with a file.
  Conditions: disks that the call has made.
-/
import Derived.Test.YtfmbadinfhpihaaGreatDisk4
namespace Go.Proofs.YtfmbadinfhpihaaGreat
open Go.RowKit Go.Maps
set_option maxRecDepth 100000

set_option maxHeartbeats 1000000 in
theorem sync2_any (c b p q : Nat) (st : Dk) (hok : st.Ok) (s : ByteArray) (hs : s.size ≤ 9223372036854775807) (w : World) (h : DkAt c b st w) (hc : Caught p q c s w) :
    Calls Tryz.prog 160 #[.pointer (some ⟨p, 0, none⟩), .pointer (some ⟨q, 0, none⟩)] w fun e w' => e = .returned (.tuple #[]) ∧ DkAt c b (st.with (putF st.fs s (fileAt st.fs s).1 ((fileAt st.fs s).1.size : Nat))) w' ∧ Mv [b] [b] w w' := by
  obtain ⟨cp, cq⟩ := hc
  have hplt := cell_lt cp
  have hqlt := cell_lt cq
  have hpb := ne_map h.2.1 cp
  have hqb := ne_map h.2.1 cq
  have hcb := h.2.2
  have hclt := h.lt
  have hblt := h.ltb
  have c4 := h.cell4
  have hfew := hok.few
  have hyl : (fileAt st.fs s).1.size ≤ 1000000000 := Nat.le_trans (fileAt_le hok.good s) hok.tot
  have hl := fun (W : World) (e : W.heap[b]? = w.heap[b]?) => run_look (own_keep h.2.1 e) hok.good hs
  obtain ⟨y, hy⟩ : ∃ y, fileAt st.fs s = y := ⟨_, rfl⟩
  rw [hy] at hl hyl ⊢
  clear hy
  have hl0 := hl w.drew rfl
  have hl1 := hl ((w.alloc (.cells #[.string ⟨#[]⟩, .int .i64 0] 108)).drew) (Below.heap_alloc w _ b hblt)
  clear hl
  have H := Lib.hid h
  clear h
  go_enter Tryz.func160, Tryz.ntmps160
  go_wp2
  go_region_held3 (fun W => W.cell? ⟨p, 0, none⟩ = some (.pointer (some ⟨c, 0, none⟩)) ∧ W.cell? ⟨q, 0, none⟩ = some (.string s) ∧ W.cell? ⟨c, 4, none⟩ = some (.map (some b)))
    (first | exact ⟨cp, cq, c4⟩ | exact ⟨(World.cell?_alloc_lt _ _ _ hplt).trans cp, (World.cell?_alloc_lt _ _ _ hqlt).trans cq, (World.cell?_alloc_lt _ _ _ hclt).trans c4⟩ | go_keep)
    (fail)
  all_goals
    go_wp2
    obtain ⟨W2, HW2⟩ : ∃ W2, Hid ((w.alloc (.cells #[.string y.1, .int .i64 (y.1.size : Nat)] 108)).drew = W2) := ⟨_, rfl⟩
    have cp2 : W2.cell? ⟨p, 0, none⟩ = some (.pointer (some ⟨c, 0, none⟩)) := by rw [← HW2.out]; exact (World.cell?_alloc_lt _ _ _ hplt).trans cp
    have cq2 : W2.cell? ⟨q, 0, none⟩ = some (.string s) := by rw [← HW2.out]; exact (World.cell?_alloc_lt _ _ _ hqlt).trans cq
    have c42 : W2.cell? ⟨c, 4, none⟩ = some (.map (some b)) := by rw [← HW2.out]; exact (World.cell?_alloc_lt _ _ _ hclt).trans c4
    have cf0 : W2.cell? ⟨w.heap.size, 0, none⟩ = some (.string y.1) := by rw [← HW2.out]; show (w.alloc _).cell? _ = _; rw [Lib.cell_of_heap (heap_alloc_new w _)]; rfl
    have cf1 : W2.cell? ⟨w.heap.size, 1, none⟩ = some (.int .i64 (y.1.size : Nat)) := by rw [← HW2.out]; show (w.alloc _).cell? _ = _; rw [Lib.cell_of_heap (heap_alloc_new w _)]; rfl
    have hsz2 : W2.heap.size = w.heap.size + 1 := by rw [← HW2.out]; simp
    have HK2 : Hid (DkAt c b st W2) := by show DkAt _ _ _ _; rw [← HW2.out]; exact H.out.alloc _
    have HM2 : Hid (Mv [b] [b] w W2) := by show Mv _ _ _ _; rw [← HW2.out]; exact ((Mv.refl [b] w).alloc _).drewN 1
    rw [HW2.out]
    clear hl0 hl1 cp cq c4 H HW2
    obtain ⟨w3, hrun, hown3, hgrow3⟩ := (show (W2.drew).ownsMap Tryz.prog 9 fileE b (Maps.size st.fs) st.fs from HK2.out.2.1).update keyT Tryz.underlying45 (by unfold maxLen; omega) (key_str hs) (fileE_mk y.1 (y.1.size : Nat))
    have k3 : ∀ (k i : Nat) (v : Value), k < W2.heap.size → k ≠ b → W2.cell? ⟨k, i, none⟩ = some v → w3.cell? ⟨k, i, none⟩ = some v := fun k i v h1 h2 h3 => (World.cell?_of_block (a := ⟨k, i, none⟩) (hgrow3.block k h1 (fun e => h2 (by injection e)))).trans h3
    go_region_held3 (fun W => W.cell? ⟨p, 0, none⟩ = some (.pointer (some ⟨c, 0, none⟩)) ∧ W.cell? ⟨q, 0, none⟩ = some (.string s) ∧ W.cell? ⟨c, 4, none⟩ = some (.map (some b)) ∧ W.cell? ⟨w.heap.size, 0, none⟩ = some (.string y.1) ∧ W.cell? ⟨w.heap.size, 1, none⟩ = some (.int .i64 (y.1.size : Nat)))
      (first | exact ⟨cp2, cq2, c42, cf0, cf1⟩ | exact ⟨k3 _ _ _ (by omega) hpb cp2, k3 _ _ _ (by omega) hqb cq2, k3 _ _ _ (by omega) hcb c42, k3 _ _ _ (by omega) (by omega) cf0, k3 _ _ _ (by omega) (by omega) cf1⟩)
      (fail)
    go_end0
    exact ⟨rfl, HK2.out.turned (hgrow3.block c (by show c < W2.heap.size; omega) (fun e => hcb (by injection e))) hown3, (HM2.out.drewN 1).trans (Mv.of_grown hgrow3)⟩

set_option maxHeartbeats 1000000 in
theorem rename2_any (c b p q r : Nat) (st : Dk) (hok : st.Ok) (s t : ByteArray) (hs : s.size ≤ 9223372036854775807) (ht : t.size ≤ 1000000) (w : World) (h : DkAt c b st w) (hc : Caught p q c s w) (cr : w.cell? ⟨r, 0, none⟩ = some (.string t)) :
    Calls Tryz.prog 215 #[.pointer (some ⟨p, 0, none⟩), .pointer (some ⟨q, 0, none⟩), .pointer (some ⟨r, 0, none⟩)] w fun e w' => e = .returned (.tuple #[]) ∧ DkAt c b (st.with (putF (delF st.fs s) t (fileAt st.fs s).1 (fileAt st.fs s).2)) w' ∧ Mv [b] [b] w w' := by
  obtain ⟨cp, cq⟩ := hc
  have hplt := cell_lt cp
  have hqlt := cell_lt cq
  have hrlt := cell_lt cr
  have hpb := ne_map h.2.1 cp
  have hqb := ne_map h.2.1 cq
  have hrb := ne_map h.2.1 cr
  have hcb := h.2.2
  have hclt := h.lt
  have hblt := h.ltb
  have c4 := h.cell4
  have hfew := hok.few
  have hsd := sizeF_del hok.good s
  have hl := fun (W : World) (e : W.heap[b]? = w.heap[b]?) => run_look (own_keep h.2.1 e) hok.good hs
  obtain ⟨y, hy⟩ : ∃ y, fileAt st.fs s = y := ⟨_, rfl⟩
  rw [hy] at hl ⊢
  clear hy
  have hl0 := hl w.drew rfl
  have hl1 := hl ((w.alloc (.cells #[.string ⟨#[]⟩, .int .i64 0] 108)).drew) (Below.heap_alloc w _ b hblt)
  clear hl
  have H := Lib.hid h
  clear h
  go_enter Tryz.func215, Tryz.ntmps215
  go_wp2
  go_region_held3 (fun W => W.cell? ⟨p, 0, none⟩ = some (.pointer (some ⟨c, 0, none⟩)) ∧ W.cell? ⟨q, 0, none⟩ = some (.string s) ∧ W.cell? ⟨c, 4, none⟩ = some (.map (some b)))
    (first | exact ⟨cp, cq, c4⟩ | exact ⟨(World.cell?_alloc_lt _ _ _ hplt).trans cp, (World.cell?_alloc_lt _ _ _ hqlt).trans cq, (World.cell?_alloc_lt _ _ _ hclt).trans c4⟩ | go_keep)
    (fail)
  all_goals
    obtain ⟨W2, HW2⟩ : ∃ W2, Hid ((w.alloc (.cells #[.string y.1, .int .i64 y.2] 108)).drew = W2) := ⟨_, rfl⟩
    have cp2 : W2.cell? ⟨p, 0, none⟩ = some (.pointer (some ⟨c, 0, none⟩)) := by rw [← HW2.out]; exact (World.cell?_alloc_lt _ _ _ hplt).trans cp
    have cq2 : W2.cell? ⟨q, 0, none⟩ = some (.string s) := by rw [← HW2.out]; exact (World.cell?_alloc_lt _ _ _ hqlt).trans cq
    have cr2 : W2.cell? ⟨r, 0, none⟩ = some (.string t) := by rw [← HW2.out]; exact (World.cell?_alloc_lt _ _ _ hrlt).trans cr
    have c42 : W2.cell? ⟨c, 4, none⟩ = some (.map (some b)) := by rw [← HW2.out]; exact (World.cell?_alloc_lt _ _ _ hclt).trans c4
    have cf0 : W2.cell? ⟨w.heap.size, 0, none⟩ = some (.string y.1) := by rw [← HW2.out]; show (w.alloc _).cell? _ = _; rw [Lib.cell_of_heap (heap_alloc_new w _)]; rfl
    have cf1 : W2.cell? ⟨w.heap.size, 1, none⟩ = some (.int .i64 y.2) := by rw [← HW2.out]; show (w.alloc _).cell? _ = _; rw [Lib.cell_of_heap (heap_alloc_new w _)]; rfl
    have hsz2 : W2.heap.size = w.heap.size + 1 := by rw [← HW2.out]; simp
    have HK2 : Hid (DkAt c b st W2) := by show DkAt _ _ _ _; rw [← HW2.out]; exact H.out.alloc _
    have HM2 : Hid (Mv [b] [b] w W2) := by show Mv _ _ _ _; rw [← HW2.out]; exact ((Mv.refl [b] w).alloc _).drewN 1
    rw [HW2.out]
    clear hl0 hl1 cp cq cr c4 H HW2
    obtain ⟨w3, hrun3, hown3, hturn3⟩ := (show (W2.drew).ownsMap Tryz.prog 9 fileE b (Maps.size st.fs) st.fs from HK2.out.2.1).drop keyT Tryz.underlying45 (key_str hs) 0
    have hgrow3 := hturn3.grown
    have k3 : ∀ (k i : Nat) (v : Value), k < W2.heap.size → k ≠ b → W2.cell? ⟨k, i, none⟩ = some v → w3.cell? ⟨k, i, none⟩ = some v := fun k i v h1 h2 h3 => (World.cell?_of_block (a := ⟨k, i, none⟩) (hgrow3.block k h1 (fun e => h2 (by injection e)))).trans h3
    go_wp2
    go_region_held3 (fun W => W.cell? ⟨p, 0, none⟩ = some (.pointer (some ⟨c, 0, none⟩)) ∧ W.cell? ⟨q, 0, none⟩ = some (.string s) ∧ W.cell? ⟨c, 4, none⟩ = some (.map (some b)))
      (first | exact ⟨cp2, cq2, c42⟩ | exact ⟨k3 _ _ _ (by omega) hpb cp2, k3 _ _ _ (by omega) hqb cq2, k3 _ _ _ (by omega) hcb c42⟩)
      (fail)
    have cp3 := k3 _ _ _ (by omega) hpb cp2
    have cr3 := k3 _ _ _ (by omega) hrb cr2
    have c43 := k3 _ _ _ (by omega) hcb c42
    have cf03 := k3 _ _ _ (by omega) (by omega) cf0
    have cf13 := k3 _ _ _ (by omega) (by omega) cf1
    have HK3 : Hid (DkAt c b (st.with (delF st.fs s)) w3) := by show DkAt _ _ _ _; exact HK2.out.turned (hgrow3.block c (by show c < W2.heap.size; omega) (fun e => hcb (by injection e))) hown3
    have HM3 : Hid (Mv [b] [b] w w3) := by show Mv _ _ _ _; exact (HM2.out.drewN 1).trans (Mv.of_grown hgrow3)
    have hsz3 : W2.heap.size ≤ w3.heap.size := hgrow3.size
    clear hrun3 hown3 hturn3 hgrow3 k3 cp2 cq2 cr2 c42 cf0 cf1 HK2 HM2
    go_wp2
    go_region_held3 (fun W => W.cell? ⟨p, 0, none⟩ = some (.pointer (some ⟨c, 0, none⟩)) ∧ W.cell? ⟨r, 0, none⟩ = some (.string t) ∧ W.cell? ⟨c, 4, none⟩ = some (.map (some b)) ∧ W.cell? ⟨w.heap.size, 0, none⟩ = some (.string y.1) ∧ W.cell? ⟨w.heap.size, 1, none⟩ = some (.int .i64 y.2))
      (first
        | exact ⟨cp3, cr3, c43, cf03, cf13⟩
        | exact ⟨k4 _ _ _ (by omega) cp3, k4 _ _ _ (by omega) cr3, k4 _ _ _ (by omega) c43, k4 _ _ _ (by omega) cf03, k4 _ _ _ (by omega) cf13⟩
        | exact ⟨k5 _ _ _ (by omega) hpb cp3, k5 _ _ _ (by omega) hrb cr3, k5 _ _ _ (by omega) hcb c43, k5 _ _ _ (by omega) (by omega) cf03, k5 _ _ _ (by omega) (by omega) cf13⟩)
      (first | (go_at_call 39; refine (clone_any t _ (by omega)).mono ?_; rintro e w4 ⟨rfl, hb4⟩; obtain ⟨w5, hrun5, hown5, hgrow5⟩ := (own_keep HK3.out.2.1 (hb4.block b HK3.out.ltb)).update keyT Tryz.underlying45 (by unfold maxLen; show Maps.size (delF st.fs s) < _; omega) (key_str (s := t) (by omega)) (fileE_mk y.1 y.2); have k4 : ∀ (k i : Nat) (v : Value), k < w3.heap.size → w3.cell? ⟨k, i, none⟩ = some v → w4.cell? ⟨k, i, none⟩ = some v := (fun k i v h1 h3 => (hb4.cell (show (⟨k, i, none⟩ : Addr).block < _ from h1)).trans h3); have k5 : ∀ (k i : Nat) (v : Value), k < w3.heap.size → k ≠ b → w3.cell? ⟨k, i, none⟩ = some v → w5.cell? ⟨k, i, none⟩ = some v := (fun k i v h1 h2 h3 => (World.cell?_of_block (a := ⟨k, i, none⟩) (hgrow5.block k (Nat.lt_of_lt_of_le h1 hb4.size) (fun e => h2 (by injection e)))).trans (k4 k i v h1 h3))))
    go_end0
    have hc3 : c < w3.heap.size := by omega
    refine ⟨rfl, HK3.out.turned ((hgrow5.block c (Nat.lt_of_lt_of_le hc3 hb4.size) (fun e => hcb (by injection e))).trans (hb4.block c hc3)) hown5, ?_⟩
    exact ((HM3.out.drewN 1).then_below hb4).trans (Mv.of_grown hgrow5)
end Go.Proofs.YtfmbadinfhpihaaGreat
