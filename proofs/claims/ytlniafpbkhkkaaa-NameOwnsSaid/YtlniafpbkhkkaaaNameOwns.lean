/-
  NameOwns: an owned set does what a set does, and has its owner.
  Conditions: a text, texts in lists that the call reads.
-/
import Derived.Test.YtlniafpbkhkkaaaNameBack
namespace Go.Proofs.Ytlniafpbkhkkaaa
open Go.RowKit Go.Maps Go.Sort

theorem own_info : (Try.prog.info? 34).map (·.size) = some 2 := by kernel_rfl
set_option maxHeartbeats 1000000 in
theorem own_any (o : ByteArray) (ho : o.size ≤ 281474976710656) (l : List ByteArray) (A : Option Addr) (cp : Nat) (w : World) (hD : l.length ≤ 1000000000) (hr : Reads w w.heap.size 1 A l.length (strs l)) (hA : 0 < l.length → ∀ ad, A = some ad → ad.block < w.heap.size) (hs : ∀ s ∈ l, s.size ≤ 281474976710656) :
    Calls Try.prog 20 #[.string o, .slice A l.length cp] w fun e w' => e = .returned (.agg #[.pointer (some ⟨w.heap.size + 1, 0, none⟩), .string o]) ∧ SetAt (w.heap.size + 1) (w.heap.size + 2) (setS l) w' ∧ Below w.heap.size w w' := by
  have hc := newset_any l A cp (w.alloc (.cells #[.pointer none, .string ⟨#[]⟩] 34)) hD ((hr.alloc (Nat.le_refl _) _).more (by simp)) (fun h ad e => by have := hA h ad e; simp; omega) hs
  rw [show (w.alloc (.cells #[.pointer none, .string ⟨#[]⟩] 34)).heap.size = w.heap.size + 1 from by simp] at hc
  obtain ⟨n, hn⟩ : ∃ n, l.length = n := ⟨_, rfl⟩
  rw [hn] at hc ⊢
  have hk : (w.alloc (.cells #[.pointer none, .string ⟨#[]⟩] 34)).heap[w.heap.size]? = some (.cells #[.pointer none, .string ⟨#[]⟩] 34 (0, 0)) := heap_alloc_new w _
  have HC := Lib.hid hc; clear hc hr hA hs hn hD
  go_enter Try.func20, Try.ntmps20
  go_wp2_with fail
  refine HC.out.mono ?_
  rintro e w1 ⟨rfl, h1, h2⟩
  have hz1 := h2.size
  simp only [World.size_alloc] at hz1
  have hk1 := (h2.block w.heap.size (by omega)).trans hk
  have H1 := Lib.hid h1
  have H2 : Hid (Below w.heap.size w w1) := by
    show Below _ _ _
    exact ((Below.refl _ _).alloc (Nat.le_refl _) _).trans (h2.mono (by omega))
  clear h1 h2 hk HC
  go_wp2_with fail
  refine (clone_any o _ ho).mono ?_
  rintro e w2 ⟨rfl, hb2⟩
  have hz2 := hb2.size
  have hk2 := (hb2.block w.heap.size (by omega)).trans hk1
  have c0 : w2.cell? ⟨w.heap.size, 0, none⟩ = some (.pointer none) := by rw [Lib.cell_of_heap hk2]; rfl
  have c1 : w2.cell? ⟨w.heap.size, 1, none⟩ = some (.string ⟨#[]⟩) := by rw [Lib.cell_of_heap hk2]; rfl
  have f0 := Lib.frozen_of_heap hk2 0
  have f1 := Lib.frozen_of_heap hk2 1
  have HS2 := Lib.hid (H1.out.below hb2 H1.out.lt H1.out.ltb)
  have HB2 := Lib.hid (H2.out.trans (hb2.mono H2.out.size))
  have HK2 : Hid (Blk w2 w.heap.size 34 #[.pointer none, .string ⟨#[]⟩]) := hk2
  clear hb2 hk1 hk2
  go_wp2
  have hg : ((w2.setCell ⟨w.heap.size, 0, none⟩ (.pointer (some ⟨w.heap.size + 1, 0, none⟩))).setCell ⟨w.heap.size, 1, none⟩ (.string o)).heap[w.heap.size]? = some (.cells #[.pointer (some ⟨w.heap.size + 1, 0, none⟩), .string o] 34 (0, 0)) := (HK2.out.set_ 0 _).set_ 1 _
  refine bodyPost_ret (results_cell_row rfl _ _ w.heap.size _ _ _ _ rfl hg Try.underlying34 rfl own_info) rfl ?_
  have hs := HS2.out
  refine ⟨rfl, ?_, ?_⟩
  · refine hs.keep ?_ ?_
    · rw [Below.heap_setCell _ _ _ _ (show w.heap.size + 1 ≠ w.heap.size by omega), Below.heap_setCell _ _ _ _ (show w.heap.size + 1 ≠ w.heap.size by omega)]
    · rw [Below.heap_setCell _ _ _ _ (show w.heap.size + 1 + 1 ≠ w.heap.size by omega), Below.heap_setCell _ _ _ _ (show w.heap.size + 1 + 1 ≠ w.heap.size by omega)]
  · exact (HB2.out.setCell (p := ⟨w.heap.size, 0, none⟩) (Nat.le_refl _) _).setCell (p := ⟨w.heap.size, 1, none⟩) (Nat.le_refl _) _
/-- NameOwns, where a list is long. -/
theorem nowns_early (o : ByteArray) (ss tt : List ByteArray) (A B : Option Addr) (cp cq : Nat) (w : World) (hrs : Reads w w.heap.size 1 A ss.length (strs ss)) (hrt : Reads w w.heap.size 1 B tt.length (strs tt)) (hl : ss.length ≤ 9223372036854775807) (hm : tt.length ≤ 9223372036854775807)
    (hs : ∀ s ∈ ss, s.size ≤ 9223372036854775807) (ht : ∀ s ∈ tt, s.size ≤ 9223372036854775807) (h : shortB 300 9000 ss = false ∨ shortB 300 9000 tt = false) :
    Calls Try.prog 7 #[.string o, .slice A ss.length cp, .slice B tt.length cq] w fun e w' => e = .returned (.bool true) ∧ Below w.heap.size w w' := by
  have h1 := short2_any ss A cp w hrs hl hs
  have h2 := fun (w1 : World) (hb : Below w.heap.size w w1) => short2_any tt B cq w1 ((hrt.below hb).more hb.size) hm ht
  generalize ss.length = n at *
  generalize tt.length = m at *
  obtain ⟨x, hx⟩ : ∃ x, shortB 300 9000 ss = x := ⟨_, rfl⟩
  obtain ⟨y, hy⟩ : ∃ y, shortB 300 9000 tt = y := ⟨_, rfl⟩
  rw [hx] at h1 h
  rw [hy] at h2 h
  have H1 := Lib.hid h1; have H2 := fun w1 hb => Lib.hid (h2 w1 hb)
  clear h1 h2 hx hy hrs hrt hs ht
  cases x
  · go_enter Try.func7, Try.ntmps7
    go_wp2_with fail
    refine H1.out.mono ?_
    rintro e w1 ⟨rfl, hb1⟩
    have HB1 := Lib.hid hb1
    clear hb1
    go_wp2_with fail
    refine (alive2_any _).mono ?_
    rintro e w2 ⟨rfl, hb2⟩
    have HB2 := Lib.hid (HB1.out.trans (hb2.mono HB1.out.size))
    clear hb2
    go_wp2
    go_ret
    exact ⟨rfl, HB2.out⟩
  · obtain rfl : y = false := by simpa using h
    clear h
    go_enter Try.func7, Try.ntmps7
    go_wp2_with fail
    refine H1.out.mono ?_
    rintro e w1 ⟨rfl, hb1⟩
    have H21 := H2 w1 hb1
    have HB1 := Lib.hid hb1
    clear hb1
    go_wp2_with fail
    refine H21.out.mono ?_
    rintro e w2 ⟨rfl, hb2⟩
    have HB2 := Lib.hid (HB1.out.trans (hb2.mono HB1.out.size))
    clear hb2
    go_wp2_with fail
    refine (alive2_any _).mono ?_
    rintro e w3 ⟨rfl, hb3⟩
    have HB3 := Lib.hid (HB2.out.trans (hb3.mono HB2.out.size))
    clear hb3
    go_wp2
    go_ret
    exact ⟨rfl, HB3.out⟩

set_option maxHeartbeats 4000000 in
set_option maxRecDepth 100000 in
theorem nowns_walk (o : ByteArray) (ho : o.size ≤ 281474976710656) (ss tt : List ByteArray) (A B : Option Addr) (cp cq : Nat) (w : World) (hrs : Reads w w.heap.size 1 A ss.length (strs ss)) (hrt : Reads w w.heap.size 1 B tt.length (strs tt)) (hl : ss.length ≤ 9223372036854775807) (hm : tt.length ≤ 9223372036854775807)
    (hs : ∀ s ∈ ss, s.size ≤ 9223372036854775807) (ht : ∀ s ∈ tt, s.size ≤ 9223372036854775807) :
    Calls Try.prog 7 #[.string o, .slice A ss.length cp, .slice B tt.length cq] w fun e w' => e = .returned (.bool true) ∧ Below w.heap.size w w' := by
  by_cases hearly : shortB 300 9000 ss = false ∨ shortB 300 9000 tt = false
  · exact nowns_early o ss tt A B cp cq w hrs hrt hl hm hs ht hearly
  have hx : shortB 300 9000 ss = true := by cases h : shortB 300 9000 ss <;> simp [h] at hearly ⊢
  have hy : shortB 300 9000 tt = true := by cases h : shortB 300 9000 tt <;> simp [h] at hearly ⊢
  obtain ⟨hl3, hs9⟩ := short_yes hx
  obtain ⟨hm3, ht9⟩ := short_yes hy
  have hA := fun h => reads_block hrs h
  have hB := fun h => reads_block hrt h
  obtain ⟨D0, hD0⟩ : ∃ D0, setS ss = D0 := ⟨_, rfl⟩
  have hg0 : GoodS D0 := by rw [← hD0]; exact goodS_set ss
  have hz9 := size_set ss
  rw [hD0] at hz9
  have hg1 := hg0.add tt
  have hza := size_addS hg0 tt
  obtain ⟨D1, hD1⟩ : ∃ D1, addS D0 tt = D1 := ⟨_, rfl⟩
  rw [hD1] at hg1 hza
  have hg2 := hg1.dels ss
  have hzd := size_delS hg1 ss
  obtain ⟨D2, hD2⟩ : ∃ D2, delS D1 ss = D2 := ⟨_, rfl⟩
  rw [hD2] at hg2 hzd
  have h1 := short2_any ss A cp w hrs hl hs
  have h2 := fun (w1 : World) (hb : Below w.heap.size w w1) => short2_any tt B cq w1 ((hrt.below hb).more hb.size) hm ht
  have h3 := fun (w1 : World) (hb : Below w.heap.size w w1) => newset_any ss A cp w1 (by omega) ((hrs.below hb).more hb.size) (fun h ad e => by have := hA h ad e; have := hb.size; omega) (fun s h => by have := hs9 s h; omega)
  have h4 := fun (w1 : World) (hb : Below w.heap.size w w1) => own_any o ho ss A cp w1 (by omega) ((hrs.below hb).more hb.size) (fun h ad e => by have := hA h ad e; have := hb.size; omega) (fun s h => by have := hs9 s h; omega)
  have h5 := fun (c b : Nat) (w1 : World) (hS : SetAt c b D0 w1) (hb : Below w.heap.size w w1) (hbb : w.heap.size ≤ b) => addset_any c b D0 tt B cq w1 hS hg0 (by omega) ((hrt.below hb).more hb.size) (fun h ad e => by have := hB h ad e; have := hb.size; omega) (fun s h => by have := ht9 s h; omega)
  have h6 := fun (c b : Nat) (w1 : World) (hS : SetAt c b D1 w1) (hb : Below w.heap.size w w1) (hbb : w.heap.size ≤ b) => delset_any c b D1 ss A cp w1 hS hg1 (by omega) (by omega) ((hrs.below hb).more hb.size) (fun h ad e => by have := hA h ad e; have := hb.size; omega) (fun s h => by have := hs9 s h; omega)
  rw [hx] at h1
  rw [hy] at h2
  rw [hD0] at h3 h4
  simp only [hD1] at h5
  simp only [hD2] at h6
  obtain ⟨n, hn⟩ : ∃ n, ss.length = n := ⟨_, rfl⟩
  obtain ⟨m, hm9⟩ : ∃ m, tt.length = m := ⟨_, rfl⟩
  rw [hn] at h1 h3 h4 hl3 hz9
  simp only [hn] at h6
  simp only [hm9] at h5
  rw [hm9] at h2 hm3 hza
  rw [hn, hm9]
  have HLL := Lib.hid (lstS_len hg2)
  have H1 := Lib.hid h1; have H2 := fun w1 hb => Lib.hid (h2 w1 hb); have H3 := fun w1 hb => Lib.hid (h3 w1 hb); have H4 := fun w1 hb => Lib.hid (h4 w1 hb); have H5 := Lib.hid h5; have H6 := Lib.hid h6
  have HG2 := Lib.hid hg2
  have hoo : (o.toList == o.toList) = true := beq_self_eq_true _
  clear h1 h2 h3 h4 h5 h6 hx hy hearly hrs hrt hl hm hs ht hA hB hs9 ht9 hD0 hn hm9 hg0 hg1 hg2 hD1 hD2
  go_enter Try.func7, Try.ntmps7
  go_wp2_with fail
  refine H1.out.mono ?_
  rintro e w1 ⟨rfl, hb1⟩
  have H21 := H2 w1 hb1
  have HB1 := Lib.hid hb1
  clear hb1
  go_wp2_with fail
  refine H21.out.mono ?_
  rintro e w2 ⟨rfl, hb2⟩
  have HB2 := Lib.hid (HB1.out.trans (hb2.mono HB1.out.size))
  clear hb2 H21 H2 H1
  have H32 := H3 w2 HB2.out
  go_wp2_with fail
  refine H32.out.mono ?_
  rintro e w3 ⟨rfl, hS3, hb3⟩
  obtain ⟨c, hc⟩ : ∃ c, w2.heap.size = c := ⟨_, rfl⟩
  rw [hc] at hS3 ⊢
  have hwc : w.heap.size ≤ c := by have := HB2.out.size; omega
  have HS3 := Lib.hid hS3
  have HB3 := Lib.hid (HB2.out.trans (hb3.mono HB2.out.size))
  have hlt3 := hS3.ltb
  have hlt3c := hS3.lt
  clear hS3 hb3 H32 H3 hc HB1 HB2
  have H43 := H4 w3 HB3.out
  go_wp2_with fail
  refine H43.out.mono ?_
  rintro e w4 ⟨rfl, hS4, hb4⟩
  have hwd := HB3.out.size
  obtain ⟨d, hd⟩ : ∃ d, w3.heap.size = d := ⟨_, rfl⟩
  have HS4 := Lib.hid (HS3.out.below hb4 hlt3c hlt3)
  have HB4 := Lib.hid (HB3.out.trans (hb4.mono HB3.out.size))
  rw [hd] at hS4 hlt3 hlt3c hwd ⊢
  have HT4 := Lib.hid hS4
  have hltd := hS4.ltb
  have hltdc := hS4.lt
  clear hS4 hb4 H43 H4 HS3 HB3 hd
  go_wp2
  obtain ⟨W, HW⟩ : ∃ W, Hid (w4.alloc (.cells #[.pointer (some ⟨d + 1, 0, none⟩), .string o] 34) = W) := ⟨_, rfl⟩
  have hWz : W.heap.size = w4.heap.size + 1 := by rw [← HW.out]; simp
  have cg : W.cell? ⟨w4.heap.size, 0, none⟩ = some (.pointer (some ⟨d + 1, 0, none⟩)) := by rw [← HW.out, Lib.cell_of_heap (heap_alloc_new w4 _)]; rfl
  have HSW := Lib.hid (show SetAt c (c + 1) D0 W from by rw [← HW.out]; exact HS4.out.alloc _)
  have HTW := Lib.hid (show SetAt (d + 1) (d + 2) D0 W from by rw [← HW.out]; exact HT4.out.alloc _)
  have HBW := Lib.hid (show Below w.heap.size w W from by rw [← HW.out]; exact HB4.out.alloc HB4.out.size _)
  rw [HW.out]
  have KA := H5.out c (c + 1) W.drew HSW.out HBW.out.drew (by omega)
  have KG := Lib.hid (fun (w5 : World) (hm5 : Mv [c + 1] [c + 1] W.drew w5) => H5.out (d + 1) (d + 2) w5 ((show SetAt (d + 1) (d + 2) D0 W.drew from HTW.out).mv hm5 (by simp; omega) (by simp; omega)) (HBW.out.drew.trans (hm5.below (fun j hj => by simp at hj; omega) HBW.out.size)) (by omega))
  clear HS4 HT4 HB4 HW
  obtain ⟨g, hg⟩ : ∃ g, w4.heap.size = g := ⟨_, rfl⟩
  rw [hg] at cg hWz hltd hltdc ⊢
  clear hg
  go_wp2
  go_region_held3 (fun V => V.cell? ⟨g, 0, none⟩ = some (.pointer (some ⟨d + 1, 0, none⟩)))
    (first | exact cg | exact cg6 | exact cg5)
    (first
      | (go_at_call 14; (with_reducible refine KB.mono ?_); rintro e w6 ⟨rfl, hT6, hm6⟩; have cg6 : w6.cell? ⟨g, 0, none⟩ = some (.pointer (some ⟨d + 1, 0, none⟩)) := (World.cell?_of_block (a := ⟨g, 0, none⟩) (hm6.block g (by omega) (by simp; omega))).trans cg5)
      | (go_at_call 14; (with_reducible refine KA.mono ?_); rintro e w5 ⟨rfl, hS5, hm5⟩; have hz5 : W.heap.size ≤ w5.heap.size := hm5.size; have KB := KG.out w5 hm5; have cg5 : w5.cell? ⟨g, 0, none⟩ = some (.pointer (some ⟨d + 1, 0, none⟩)) := (World.cell?_of_block (a := ⟨g, 0, none⟩) (hm5.block g (by show g < W.heap.size; omega) (by simp; omega))).trans cg))
  have HS6 := Lib.hid (hS5.mv hm6 (by simp; omega) (by simp; omega))
  have HT6 := Lib.hid hT6
  have hz6 : W.heap.size ≤ w6.heap.size := Nat.le_trans hz5 hm6.size
  have hB5 : Below w.heap.size w w5 := HBW.out.drew.trans (hm5.below (fun j hj => by simp at hj; omega) HBW.out.size)
  have HB6 := Lib.hid (hB5.trans (hm6.below (fun j hj => by simp at hj; omega) hB5.size))
  have KA2 := H6.out c (c + 1) w6.drew HS6.out HB6.out.drew (by omega)
  have KG2 := Lib.hid (fun (w7 : World) (hm7 : Mv [c + 1] [c + 1] w6.drew w7) => H6.out (d + 1) (d + 2) w7 ((show SetAt (d + 1) (d + 2) D1 w6.drew from HT6.out).mv hm7 (by simp; omega) (by simp; omega)) (HB6.out.drew.trans (hm7.below (fun j hj => by simp at hj; omega) HB6.out.size)) (by omega))
  clear hS5 hm5 hT6 hm6 KA KB KG cg cg5 hB5 HSW HTW HBW H5 H6
  go_wp2
  go_region_held3 (fun V => V.cell? ⟨g, 0, none⟩ = some (.pointer (some ⟨d + 1, 0, none⟩)))
    (first | exact cg6 | exact cg8 | exact cg7)
    (first
      | (go_at_call 15; (with_reducible refine KB2.mono ?_); rintro e w8 ⟨rfl, hT8, hm8⟩; have cg8 : w8.cell? ⟨g, 0, none⟩ = some (.pointer (some ⟨d + 1, 0, none⟩)) := (World.cell?_of_block (a := ⟨g, 0, none⟩) (hm8.block g (by omega) (by simp; omega))).trans cg7)
      | (go_at_call 15; (with_reducible refine KA2.mono ?_); rintro e w7 ⟨rfl, hS7, hm7⟩; have hz7 : w6.heap.size ≤ w7.heap.size := hm7.size; have KB2 := KG2.out w7 hm7; have cg7 : w7.cell? ⟨g, 0, none⟩ = some (.pointer (some ⟨d + 1, 0, none⟩)) := (World.cell?_of_block (a := ⟨g, 0, none⟩) (hm7.block g (by show g < w6.heap.size; omega) (by simp; omega))).trans cg6))
  have HS8 := Lib.hid (hS7.mv hm8 (by simp; omega) (by simp; omega))
  have HT8 := Lib.hid hT8
  have hz8 : W.heap.size ≤ w8.heap.size := Nat.le_trans hz6 (Nat.le_trans hz7 hm8.size)
  have hB7 : Below w.heap.size w w7 := HB6.out.drew.trans (hm7.below (fun j hj => by simp at hj; omega) HB6.out.size)
  have HB8 := Lib.hid (hB7.trans (hm8.below (fun j hj => by simp at hj; omega) hB7.size))
  have AL := alive2_any w8.drew
  clear hS7 hm7 hT8 hm8 KA2 KB2 KG2 cg6 cg7 hB7 HS6 HT6 HB6 hz6 hz7 hz5
  go_wp2
  go_region_held3 (fun V => V.cell? ⟨g, 0, none⟩ = some (.pointer (some ⟨d + 1, 0, none⟩)))
    (first | exact cg8 | exact cg11 | exact cg10 | exact cg9)
    (first
      | (go_at_call 9; (with_reducible refine AL.mono ?_); rintro e w9 ⟨rfl, hb9⟩; have hz9' : w8.heap.size ≤ w9.heap.size := hb9.size; have cg9 : w9.cell? ⟨g, 0, none⟩ = some (.pointer (some ⟨d + 1, 0, none⟩)) := (hb9.cell (show g < w8.heap.size by omega)).trans cg8; have hS9 := (show SetAt c (c + 1) D2 w8.drew from HS8.out).below hb9 (show c < w8.heap.size by omega) (show c + 1 < w8.heap.size by omega); have hT9 := (show SetAt (d + 1) (d + 2) D2 w8.drew from HT8.out).below hb9 (show d + 1 < w8.heap.size by omega) (show d + 2 < w8.heap.size by omega); have LA := list_any c (c + 1) D2 HG2.out (by omega) w9 hS9)
      | (go_at_call 17; (with_reducible refine LB.mono ?_); rintro e w11 ⟨A11, c11, rfl, hr11, _, hb11⟩; have cg11 : w11.cell? ⟨g, 0, none⟩ = some (.pointer (some ⟨d + 1, 0, none⟩)) := (hb11.cell (show g < w10.heap.size by omega)).trans cg10; have SM := same_any (lstS D2) (lstS D2) A10 A11 c10 c11 w11.heap.size w11 ((hr10.below hb11).more hb11.size) hr11 (by have := HLL.out; omega) (by have := HLL.out; omega); rw [sameB_self] at SM)
      | (go_at_call 17; (with_reducible refine LA.mono ?_); rintro e w10 ⟨A10, c10, rfl, hr10, _, hb10⟩; have hz10 := hb10.size; have cg10 : w10.cell? ⟨g, 0, none⟩ = some (.pointer (some ⟨d + 1, 0, none⟩)) := (hb10.cell (show g < w9.heap.size by omega)).trans cg9; have hT10 := hT9.below hb10 (show d + 1 < w9.heap.size by omega) (show d + 2 < w9.heap.size by omega); have hS10 := hS9.below hb10 (show c < w9.heap.size by omega) (show c + 1 < w9.heap.size by omega); have LB := list_any (d + 1) (d + 2) D2 HG2.out (by omega) w10 hT10)
      | (go_at_call 16; (with_reducible refine LN1.mono ?_); rintro e w13 ⟨rfl, rfl⟩)
      | (go_at_call 16; (with_reducible refine LN2.mono ?_); rintro e w13 ⟨rfl, rfl⟩)
      | (go_at_call 12; (with_reducible refine SM.mono ?_); rintro e w12 ⟨rfl, q, rfl⟩; have hS11 : SetAt c (c + 1) D2 (w11.drewN q) := hS10.below (drewN_below hb11 q) (show c < w10.heap.size by omega) (show c + 1 < w10.heap.size by omega); have hT11 : SetAt (d + 1) (d + 2) D2 (w11.drewN q) := hT10.below (drewN_below hb11 q) (show d + 1 < w10.heap.size by omega) (show d + 2 < w10.heap.size by omega); have LN1 := len_any c (c + 1) D2 _ hS11; have LN2 := len_any (d + 1) (d + 2) D2 _ hT11))
  have hb89 : Below w8.heap.size w8 w9 := (Below.refl w8.heap.size w8).drew.trans hb9
  have HF := Lib.hid (drewN_below (((HB8.out.trans (hb89.mono HB8.out.size)).trans (hb10.mono (by have := HB8.out.size; omega))).trans (hb11.mono (by have := HB8.out.size; omega))) q)
  clear hb89 hb9 hb10 hb11 SM LA LB LN1 LN2 hr10 hr11 hS9 hT9 hS10 hT10 hS11 hT11 AL
  go_wp2
  go_ret
  exact ⟨rfl, HF.out⟩
end Go.Proofs.Ytlniafpbkhkkaaa
