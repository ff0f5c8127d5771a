/-
 complineref8's New as a contract; the data of the program and of the document beside each other.
 Conditions: none.
-/
import Derived.Test.YtnpkplegeddhcaaGreatTk
import Derived.Test.YtnpkplegeddhcaaGreatR8c
import Derived.Test.YtnpkplegeddhcaaGreatR8d
import Derived.OwnWalk
namespace Go.Proofs.YtnpkplegeddhcaaGreat
open Go.RowKit Go.Maps Go.Shelf
attribute [local go_sem ↓] Go.wp_at_zero Go.wp_at_succ
set_option maxRecDepth 100000

theorem own_lt {w w' : World} {base base' N n : Nat} {e : TypeId} {v : Value} {xs : List Value} (h : w.ownsRow base e N v n xs) (hb : Below w.heap.size w w') (hz : base' ≤ base) : w'.ownsRow base' e N v n xs := by
 refine ⟨h.1, ?_⟩
 rcases h.2 with h2 | ⟨g, cap, cur, h3, h4, h5, h6⟩
 ·exact .inl h2
 ·exact .inr ⟨g, cap, cur, h3, by omega, (hb.block g (Blk.lt (t := e) h5)).trans h5, h6⟩
theorem off_of_cell {w : World} {x : Nat} {a : Addr} {v : Value} {cs : Array Value} {t : TypeId} (hx : w.heap[x]? = some (.cells cs t (0, 0))) (hc : w.cell? a = some v) (hn : v ∉ cs) : a.block ≠ x := by
 intro e
 unfold World.cell? at hc
 rw [e, hx] at hc
 dsimp only at hc
 split at hc
 ·cases hc
 ·exact hn (Array.mem_of_getElem? hc)
theorem RowsAt.off {α : Type} [Kd α] {w : World} {B x N : Nat} {A : Option Addr} {l : List α} {cs : Array Value} {t : TypeId} (h : RowsAt w B A N l) (hx : w.heap[x]? = some (.cells cs t (0, 0))) (hn : ∀ s, Value.string s ∉ cs) (h0 : ∀ y : α, ∃ s, (Kd.val y).cells[0]? = some (.string s)) : 0 < l.length → ∀ ad, A = some ad → ad.block ≠ x := fun hl ad e => by
 obtain ⟨ad', e', _, hc⟩ := h.row hl
 rw [e] at e'
 injection e' with e'
 subst e'
 obtain ⟨s, hs⟩ := h0 l[0]
 have h1 := off_of_cell hx (hc 0 l[0] (List.getElem?_eq_getElem hl) 0 _ hs) (hn s)
 rwa [block_of_add, block_of_add] at h1
theorem ints_off {w : World} {B x n : Nat} {A : Option Addr} {l : List Int} {cs : Array Value} {t : TypeId} (h : Reads w B 1 A n (ints l)) (hl : l.length = n) (hx : w.heap[x]? = some (.cells cs t (0, 0))) (hn : ∀ z, Value.int .i64 z ∉ cs) : 0 < n → ∀ ad, A = some ad → ad.block ≠ x := fun hp ad e => by
 obtain ⟨ad', e', _, hc⟩ := h.2 hp
 rw [e] at e'
 injection e' with e'
 subst e'
 have h1 := off_of_cell hx (hc 0 (.int .i64 (l[0]'(by omega))) (by unfold ints; rw [List.getElem?_map, List.getElem?_eq_getElem (by omega)]; rfl)) (hn _)
 rwa [block_of_add] at h1
set_option maxHeartbeats 4000000 in
theorem copied8_any (x : Nat) (st : R8) (w : World) (h : R8At x st w) (hl1 : st.p.length ≤ 100000) (hl2 : st.a.length ≤ 100000) (hl3 : st.s.length ≤ 100000) :
  Calls Tryz.prog 56 #[.pointer (some ⟨x, 0, none⟩)] w fun e w' => e = .returned (.pointer (some ⟨w.heap.size, 0, none⟩)) ∧ R8At w.heap.size st w' ∧ Below w.heap.size w w' := by
 obtain ⟨iP, zP, hiP0, hiP1, hiP2, hiP3, hiP4⟩ := info_all infoP8
 obtain ⟨iA, zA, hiA0, hiA1, hiA2, hiA3, hiA4⟩ := info_all infoA8
 obtain ⟨iS, zS, hiS0, hiS1, hiS2, hiS3, hiS4⟩ := info_all infoS8
 have hxl := h.lt
 obtain ⟨vl, vp, va, vs, hb, ⟨Al, cl, rfl, hcl, hRl, _⟩, ⟨Ap, cp, rfl, hcp, hRp, _⟩, ⟨Aa, ca, rfl, hca, hRa, _⟩, ⟨As, cs, rfl, hcs, hRs, _⟩⟩ := h
 obtain ⟨L, P, A, S'⟩ := st
 dsimp only at hb hcl hRl hcp hRp hca hRa hcs hRs hl1 hl2 hl3
 obtain ⟨nl, hnl⟩ : ∃ n, L.length = n := ⟨_, rfl⟩
 obtain ⟨np, hnp⟩ : ∃ n, P.length = n := ⟨_, rfl⟩
 obtain ⟨na, hna⟩ : ∃ n, A.length = n := ⟨_, rfl⟩
 obtain ⟨ns, hns⟩ : ∃ n, S'.length = n := ⟨_, rfl⟩
 have HRP : Hid (Reads w w.heap.size 2 Ap np (cellsOf P)) := by show Reads _ _ _ _ _ _; rw [← hnp]; exact hRp.reads (fun x _ => csP8 x)
 have HRA : Hid (Reads w w.heap.size 2 Aa na (cellsOf A)) := by show Reads _ _ _ _ _ _; rw [← hna]; exact hRa.reads (fun x _ => csA8 x)
 have HRS : Hid (Reads w w.heap.size 8 As ns (cellsOf S')) := by show Reads _ _ _ _ _ _; rw [← hns]; exact hRs.reads (fun x _ => csS8 x)
 have HRL : Hid (Reads w w.heap.size 1 Al nl (ints L)) := by show Reads _ _ _ _ _ _; rw [← hnl]; exact hRl
 rw [hnl] at hb hcl
 rw [hnp] at hb hcp hl1
 rw [hna] at hb hca hl2
 rw [hns] at hb hcs hl3
 have HNL := Lib.hid hnl; have HNP := Lib.hid hnp; have HNA := Lib.hid hna; have HNS := Lib.hid hns
 clear hRl hRp hRa hRs hnl hnp hna hns
 have q0 : w.cell? ⟨x, 0, none⟩ = some (.slice Al nl cl) := by rw [Lib.cell_of_heap hb]; rfl
 have q1 : w.cell? ⟨x, 1, none⟩ = some (.slice Ap np cp) := by rw [Lib.cell_of_heap hb]; rfl
 have q2 : w.cell? ⟨x, 2, none⟩ = some (.slice Aa na ca) := by rw [Lib.cell_of_heap hb]; rfl
 have q3 : w.cell? ⟨x, 3, none⟩ = some (.slice As ns cs) := by rw [Lib.cell_of_heap hb]; rfl
 have HX := Lib.hid hb
 clear hb
 go_enter Tryz.func56, Tryz.ntmps56
 go_wp2
 obtain ⟨x2, hx2⟩ : ∃ x2, w.heap.size = x2 := ⟨_, rfl⟩
 obtain ⟨X, hX⟩ : ∃ X, w.alloc (.cells #[.slice Al nl cl, .slice Ap np cp, .slice Aa na ca, .slice As ns cs] 39) = X := ⟨_, rfl⟩
 have hX2 : X.heap[x2]? = some (.cells #[.slice Al nl cl, .slice Ap np cp, .slice Aa na ca, .slice As ns cs] 39 (0, 0)) := by rw [← hX, ← hx2]; exact heap_alloc_new _ _
 have hXB : Below w.heap.size w X := by rw [← hX]; exact (Below.refl _ _).alloc (Nat.le_refl _) _
 have hx2X : x2 < X.heap.size := by rw [← hX, ← hx2]; simp
 have hxX : x < X.heap.size := by omega
 replace q1 : X.cell? ⟨x, 1, none⟩ = some (.slice Ap np cp) := (hXB.cell (p := ⟨x, 1, none⟩) (show x < w.heap.size from hxl)).trans q1
 replace q2 : X.cell? ⟨x, 2, none⟩ = some (.slice Aa na ca) := (hXB.cell (p := ⟨x, 2, none⟩) (show x < w.heap.size from hxl)).trans q2
 replace q3 : X.cell? ⟨x, 3, none⟩ = some (.slice As ns cs) := (hXB.cell (p := ⟨x, 3, none⟩) (show x < w.heap.size from hxl)).trans q3
 have HP := Lib.hid ((HRP.out.below hXB).more hXB.size)
 have HA := Lib.hid ((HRA.out.below hXB).more hXB.size)
 have HS := Lib.hid ((HRS.out.below hXB).more hXB.size)
 have HL := Lib.hid ((HRL.out.below hXB).more hXB.size)
 have hxn : x ≠ x2 := by omega
 have HXB := Lib.hid hXB
 have HZ := Lib.hid hx2
 have hlw : Hid (0 < nl → ∀ ad, Al = some ad → ad.block ≠ x2) := fun hn ad e => by
  obtain ⟨ad', e', hlt, _⟩ := HRL.out.2 hn
  rw [e] at e'
  injection e' with e'
  subst e'
  have := HZ.out
  omega
 rw [hX, hx2]
 clear hX hx2 hXB q0 HRP HRA HRS HRL hxl
 have hXd : X.drew.heap.size = X.heap.size := rfl
 have hb0 : Below X.heap.size X X.drew := (Below.refl _ _).drew
 refine wp_region_held_drew (S := fun X9 => X9.cell? ⟨x, 1, none⟩ = some (.slice Ap np cp) ∧ X9.cell? ⟨x, 2, none⟩ = some (.slice Aa na ca) ∧ X9.cell? ⟨x, 3, none⟩ = some (.slice As ns cs)) (by kernel_rfl) (show (X.drew).cell? _ = _ ∧ (X.drew).cell? _ = _ ∧ (X.drew).cell? _ = _ from ⟨q1, q2, q3⟩) (fun hHeld => ?_)
 refine tk (i := 0) (v := ?_) rfl (Or.inl ⟨by rfl, ?_⟩) ?_
 rotate_left
 ·intro X9 hSw; (try simp only [sD, sF]); first | (go_simp; done) | (go_simp; with_reducible rfl)
 try simp only [Act.put, sA, sB, sC, sD, sF]
 refine tk (i := 1) (v := ?_) rfl (Or.inl ⟨by rfl, ?_⟩) ?_
 rotate_left
 ·intro X9 hSw; (try simp only [sD, sE, sF]); first | (go_simp; done) | (go_simp; with_reducible rfl)
 try simp only [Act.put, sA, sB, sC, sD, sE, sF]
 refine tk (i := 2) (v := ?_) rfl (Or.inl ⟨by rfl, ?_⟩) ?_
 rotate_left
 ·intro X9 hSw; (try simp only [sD, sE, sF]); first | (go_simp; done) | (go_simp; with_reducible rfl)
 try simp only [Act.put, sA, sB, sC, sD, sE, sF]
 refine tk (i := 3) (v := ?_) rfl (Or.inl ⟨by rfl, ?_⟩) ?_
 rotate_left
 ·intro X9 hSw; (try simp only [sD, sE, sF]); first | (go_simp; done) | (go_simp; with_reducible rfl)
 try simp only [Act.put, sA, sB, sC, sD, sE, sF]
 refine tk (i := 5) (v := ?_) rfl (Or.inl ⟨by rfl, ?_⟩) ?_
 rotate_left
 ·intro X9 hSw; (try simp only [sD, sE, sF]); first | (go_simp; done) | (go_simp; with_reducible rfl)
 try simp only [Act.put, sA, sB, sC, sD, sE, sF]
 refine tk (i := 6) (v := ?_) rfl (Or.inl ⟨by rfl, ?_⟩) ?_
 rotate_left
 ·intro X9 hSw; (try simp only [sD, sE, sF]); first | (go_simp; done) | (go_simp; with_reducible rfl)
 try simp only [Act.put, sA, sB, sC, sD, sE, sF]
 refine tk (i := 7) (v := ?_) rfl (Or.inl ⟨by rfl, ?_⟩) ?_
 rotate_left
 ·intro X9 hSw; (try simp only [sD, sE, sF]); first | (go_simp; done) | (go_simp; with_reducible rfl)
 try simp only [Act.put, sA, sB, sC, sD, sE, sF]
 refine tk (i := 8) (v := ?_) rfl (Or.inl ⟨by rfl, ?_⟩) ?_
 rotate_left
 ·intro X9 hSw; (try simp only [sD, sE, sF]); first | (go_simp; done) | (go_simp; with_reducible rfl)
 try simp only [Act.put, sA, sB, sC, sD, sE, sF]
 refine tk (i := 10) (v := ?_) rfl (Or.inl ⟨by rfl, ?_⟩) ?_
 rotate_left
 ·intro X9 hSw; (try simp only [sD, sE, sF]); first | (go_simp; done) | (go_simp; with_reducible rfl)
 try simp only [Act.put, sA, sB, sC, sD, sE, sF]
 refine tk (i := 11) (v := ?_) rfl (Or.inl ⟨by rfl, ?_⟩) ?_
 rotate_left
 ·intro X9 hSw; (try simp only [sD, sE, sF]); first | (go_simp; done) | (go_simp; with_reducible rfl)
 try simp only [Act.put, sA, sB, sC, sD, sE, sF]
 refine tk (i := 12) (v := ?_) rfl (Or.inl ⟨by rfl, ?_⟩) ?_
 rotate_left
 ·intro X9 hSw; (try simp only [sD, sE, sF]); first | (go_simp; done) | (go_simp; with_reducible rfl)
 try simp only [Act.put, sA, sB, sC, sD, sE, sF]
 refine tk (i := 13) (v := ?_) rfl (Or.inl ⟨by rfl, ?_⟩) ?_
 rotate_left
 ·intro X9 hSw; (try simp only [sD, sE, sF]); first | (go_simp; done) | (go_simp; with_reducible rfl)
 try simp only [Act.put, sA, sB, sC, sD, sE, sF]
 refine wpAnyH_ready (rs := [4]) (by kernel_rfl) (by simp) (AllReadyH.cons rfl (fun K hK => ?_) (AllReadyH.nil))
 refine step_append_any (X.drew) rfl (.const (.slice none 0 0)) (.tmp 10) 35 rfl X.heap.size 84 iP zP 2 24 Tryz.underlying35 hiP0 hiP1 hiP2 hiP3 hiP4 (by decide) (.slice none 0 0) 0 [] (by rfl) (World.ownsRow_nil _ _ _ _) X.heap.size Ap np _ (cellsOf P) (by rfl) (HP.out.below hb0) (cellsOf_one _ oneP8) (by unfold maxLen; omega) (by omega) hb0.size ?_
 intro v1 w1 ho1 hg1 hl1
 rw [Nat.zero_add, List.nil_append] at ho1
 have hb1 := hb0.grown hg1 hb0.size (fun q hq => by simp [Value.ownBlock] at hq)
 have hs1 : Below (X.drew).heap.size (X.drew) w1 := (Below.refl _ _).grown hg1 (Nat.le_refl _) (fun q hq => by simp [Value.ownBlock] at hq)
 obtain ⟨A1, c1, rfl, hc1⟩ := own_form ho1
 clear hg1 hl1
 refine hK.out _ _ (⟨(hb1.cell (p := ⟨x, 1, none⟩) (show x < X.heap.size from hxX)).trans q1, (hb1.cell (p := ⟨x, 2, none⟩) (show x < X.heap.size from hxX)).trans q2, (hb1.cell (p := ⟨x, 3, none⟩) (show x < X.heap.size from hxX)).trans q3⟩) (fun hHeld => ?_)
 clear hK K
 try simp only [Act.put, sA, sB, sC, sD, sE, sF]
 refine wpAnyH_ready (rs := [9]) (by kernel_rfl) (by simp) (AllReadyH.cons rfl (fun K hK => ?_) (AllReadyH.nil))
 refine step_append_any (w1) rfl (.const (.slice none 0 0)) (.tmp 15) 36 rfl X.heap.size 88 iA zA 2 32 Tryz.underlying36 hiA0 hiA1 hiA2 hiA3 hiA4 (by decide) (.slice none 0 0) 0 [] (by rfl) (World.ownsRow_nil _ _ _ _) X.heap.size Aa na _ (cellsOf A) (by rfl) (HA.out.below hb1) (cellsOf_one _ oneA8) (by unfold maxLen; omega) (by omega) hb1.size ?_
 intro v2 w2 ho2 hg2 hl2
 rw [Nat.zero_add, List.nil_append] at ho2
 have hb2 := hb1.grown hg2 hb1.size (fun q hq => by simp [Value.ownBlock] at hq)
 have hs2 : Below (w1).heap.size (w1) w2 := (Below.refl _ _).grown hg2 (Nat.le_refl _) (fun q hq => by simp [Value.ownBlock] at hq)
 obtain ⟨A2, c2, rfl, hc2⟩ := own_form ho2
 clear hg2 hl2
 refine hK.out _ _ (⟨(hb2.cell (p := ⟨x, 1, none⟩) (show x < X.heap.size from hxX)).trans q1, (hb2.cell (p := ⟨x, 2, none⟩) (show x < X.heap.size from hxX)).trans q2, (hb2.cell (p := ⟨x, 3, none⟩) (show x < X.heap.size from hxX)).trans q3⟩) (fun hHeld => ?_)
 clear hK K
 try simp only [Act.put, sA, sB, sC, sD, sE, sF]
 refine wpAnyH_ready (rs := [14]) (by kernel_rfl) (by simp) (AllReadyH.cons rfl (fun K hK => ?_) (AllReadyH.nil))
 refine step_append_any (w2) rfl (.const (.slice none 0 0)) (.tmp 20) 37 rfl X.heap.size 92 iS zS 8 64 Tryz.underlying37 hiS0 hiS1 hiS2 hiS3 hiS4 (by decide) (.slice none 0 0) 0 [] (by rfl) (World.ownsRow_nil _ _ _ _) X.heap.size As ns _ (cellsOf S') (by rfl) (HS.out.below hb2) (cellsOf_one _ oneS8) (by unfold maxLen; omega) (by omega) hb2.size ?_
 intro v3 w3 ho3 hg3 hl3
 rw [Nat.zero_add, List.nil_append] at ho3
 have hb3 := hb2.grown hg3 hb2.size (fun q hq => by simp [Value.ownBlock] at hq)
 have hs3 : Below (w2).heap.size (w2) w3 := (Below.refl _ _).grown hg3 (Nat.le_refl _) (fun q hq => by simp [Value.ownBlock] at hq)
 obtain ⟨A3, c3, rfl, hc3⟩ := own_form ho3
 clear hg3 hl3
 refine hK.out _ _ (⟨(hb3.cell (p := ⟨x, 1, none⟩) (show x < X.heap.size from hxX)).trans q1, (hb3.cell (p := ⟨x, 2, none⟩) (show x < X.heap.size from hxX)).trans q2, (hb3.cell (p := ⟨x, 3, none⟩) (show x < X.heap.size from hxX)).trans q3⟩) (fun hHeld => ?_)
 clear hK K
 try simp only [Act.put, sA, sB, sC, sD, sE, sF]
 have HO1 : Hid (w3.ownsRow X.heap.size 84 2 (.slice A1 np c1) np (cellsOf P)) := own_lt (own_lt ho1 hs2 (Nat.le_refl _)) hs3 (Nat.le_refl _)
 have HO2 : Hid (w3.ownsRow X.heap.size 88 2 (.slice A2 na c2) na (cellsOf A)) := own_lt ho2 hs3 (Nat.le_refl _)
 have HO3 := Lib.hid ho3
 have K3 : w3.cell? ⟨x, 1, none⟩ = some (.slice Ap np cp) ∧ w3.cell? ⟨x, 2, none⟩ = some (.slice Aa na ca) ∧ w3.cell? ⟨x, 3, none⟩ = some (.slice As ns cs) := ⟨(hb3.cell (p := ⟨x, 1, none⟩) (show x < X.heap.size from hxX)).trans q1, (hb3.cell (p := ⟨x, 2, none⟩) (show x < X.heap.size from hxX)).trans q2, (hb3.cell (p := ⟨x, 3, none⟩) (show x < X.heap.size from hxX)).trans q3⟩
 have g3 : w3.heap[x2]? = _ := (hb3.block x2 hx2X).trans hX2
 clear ho1 ho2 ho3 hs1 hs2 hs3
 refine tk (i := 15) (v := ?_) rfl (Or.inl ⟨by rfl, ?_⟩) ?_
 rotate_left
 ·intro X9 hSw; (try simp only [sD, sE, sF]); first | (go_simp; done) | (go_simp; with_reducible rfl)
 try simp only [Act.put, sA, sB, sC, sD, sE, sF]
 refine wpAnyH_ready (rs := [16]) (by kernel_rfl) (by simp) (AllReadyH.cons rfl (fun K hK => ?_) (AllReadyH.nil))
 have cl0 : (w3).cell? ⟨x2, 1, none⟩ = some (.slice Ap np cp) := by rw [Lib.cell_of_heap g3]; rfl
 have fl0 : (w3).frozen? ⟨x2, 1, none⟩ = false := Lib.frozen_of_heap g3 1
 try simp only [sD, sE, sF]
 go_simp
 have m0 : Mv [x2] [x2] w3 ((w3).setCell ⟨x2, 1, none⟩ (.slice A1 np c1)) := mv_set x2 1 _ _
 refine hK.out _ _ (⟨(World.cell?_of_block (a := ⟨x, 1, none⟩) (m0.block x (Nat.lt_of_lt_of_le hxX hb3.size) (by simpa using hxn))).trans ((K3).1), (World.cell?_of_block (a := ⟨x, 2, none⟩) (m0.block x (Nat.lt_of_lt_of_le hxX hb3.size) (by simpa using hxn))).trans ((K3).2.1), (World.cell?_of_block (a := ⟨x, 3, none⟩) (m0.block x (Nat.lt_of_lt_of_le hxX hb3.size) (by simpa using hxn))).trans ((K3).2.2)⟩) (fun hHeld => ?_)
 clear hK K
 try simp only [Act.put, sA, sB, sC, sD, sE, sF]
 have g4 := Blk.set_ (show Blk _ x2 39 _ from g3) 1 (.slice A1 np c1)
 refine tk (i := 17) (v := ?_) rfl (Or.inl ⟨by rfl, ?_⟩) ?_
 rotate_left
 ·intro X9 hSw; (try simp only [sD, sE, sF]); first | (go_simp; done) | (go_simp; with_reducible rfl)
 try simp only [Act.put, sA, sB, sC, sD, sE, sF]
 refine wpAnyH_ready (rs := [18]) (by kernel_rfl) (by simp) (AllReadyH.cons rfl (fun K hK => ?_) (AllReadyH.nil))
 have cl1 : (((w3).setCell ⟨x2, 1, none⟩ (.slice A1 np c1))).cell? ⟨x2, 2, none⟩ = some (.slice Aa na ca) := by rw [Lib.cell_of_heap g4]; rfl
 have fl1 : (((w3).setCell ⟨x2, 1, none⟩ (.slice A1 np c1))).frozen? ⟨x2, 2, none⟩ = false := Lib.frozen_of_heap g4 2
 try simp only [sD, sE, sF]
 go_simp
 have m1 : Mv [x2] [x2] w3 ((((w3).setCell ⟨x2, 1, none⟩ (.slice A1 np c1))).setCell ⟨x2, 2, none⟩ (.slice A2 na c2)) := m0.trans (mv_set x2 2 _ _)
 refine hK.out _ _ (⟨(World.cell?_of_block (a := ⟨x, 1, none⟩) (m1.block x (Nat.lt_of_lt_of_le hxX hb3.size) (by simpa using hxn))).trans ((K3).1), (World.cell?_of_block (a := ⟨x, 2, none⟩) (m1.block x (Nat.lt_of_lt_of_le hxX hb3.size) (by simpa using hxn))).trans ((K3).2.1), (World.cell?_of_block (a := ⟨x, 3, none⟩) (m1.block x (Nat.lt_of_lt_of_le hxX hb3.size) (by simpa using hxn))).trans ((K3).2.2)⟩) (fun hHeld => ?_)
 clear hK K
 try simp only [Act.put, sA, sB, sC, sD, sE, sF]
 have g5 := Blk.set_ (show Blk _ x2 39 _ from g4) 2 (.slice A2 na c2)
 refine tk (i := 19) (v := ?_) rfl (Or.inl ⟨by rfl, ?_⟩) ?_
 rotate_left
 ·intro X9 hSw; (try simp only [sD, sE, sF]); first | (go_simp; done) | (go_simp; with_reducible rfl)
 try simp only [Act.put, sA, sB, sC, sD, sE, sF]
 refine wpAnyH_ready (rs := [20]) (by kernel_rfl) (by simp) (AllReadyH.cons rfl (fun K hK => ?_) (AllReadyH.nil))
 have cl2 : (((((w3).setCell ⟨x2, 1, none⟩ (.slice A1 np c1))).setCell ⟨x2, 2, none⟩ (.slice A2 na c2))).cell? ⟨x2, 3, none⟩ = some (.slice As ns cs) := by rw [Lib.cell_of_heap g5]; rfl
 have fl2 : (((((w3).setCell ⟨x2, 1, none⟩ (.slice A1 np c1))).setCell ⟨x2, 2, none⟩ (.slice A2 na c2))).frozen? ⟨x2, 3, none⟩ = false := Lib.frozen_of_heap g5 3
 try simp only [sD, sE, sF]
 go_simp
 have m2 : Mv [x2] [x2] w3 ((((((w3).setCell ⟨x2, 1, none⟩ (.slice A1 np c1))).setCell ⟨x2, 2, none⟩ (.slice A2 na c2))).setCell ⟨x2, 3, none⟩ (.slice A3 ns c3)) := m1.trans (mv_set x2 3 _ _)
 refine hK.out _ _ (⟨(World.cell?_of_block (a := ⟨x, 1, none⟩) (m2.block x (Nat.lt_of_lt_of_le hxX hb3.size) (by simpa using hxn))).trans ((K3).1), (World.cell?_of_block (a := ⟨x, 2, none⟩) (m2.block x (Nat.lt_of_lt_of_le hxX hb3.size) (by simpa using hxn))).trans ((K3).2.1), (World.cell?_of_block (a := ⟨x, 3, none⟩) (m2.block x (Nat.lt_of_lt_of_le hxX hb3.size) (by simpa using hxn))).trans ((K3).2.2)⟩) (fun hHeld => ?_)
 clear hK K
 try simp only [Act.put, sA, sB, sC, sD, sE, sF]
 have g6 := Blk.set_ (show Blk _ x2 39 _ from g5) 3 (.slice A3 ns c3)
 refine wpAnyH_done (by kernel_rfl) ?_ _
 have HB9 : Hid (Below w.heap.size w ((((((w3).setCell ⟨x2, 1, none⟩ (.slice A1 np c1))).setCell ⟨x2, 2, none⟩ (.slice A2 na c2))).setCell ⟨x2, 3, none⟩ (.slice A3 ns c3))) := (HXB.out.trans (hb3.mono HXB.out.size)).trans (m2.below (fun q hq => by simp at hq; have := HZ.out; omega) (by have := HXB.out.size; have := hb3.size; omega))
 have HL9 : Hid (InAt x2 (.slice Al nl cl) L ((((((w3).setCell ⟨x2, 1, none⟩ (.slice A1 np c1))).setCell ⟨x2, 2, none⟩ (.slice A2 na c2))).setCell ⟨x2, 3, none⟩ (.slice A3 ns c3))) := by
  have h1 : InAt x2 (.slice Al nl cl) L w3 := ⟨Al, cl, by rw [HNL.out], by rw [HNL.out]; exact hcl, by rw [HNL.out]; exact (HL.out.below hb3).more hb3.size, by rw [HNL.out]; exact hlw.out⟩
  exact h1.mvx m2
 have HP9 : Hid (SlAt Party x2 2 (.slice A1 np c1) P ((((((w3).setCell ⟨x2, 1, none⟩ (.slice A1 np c1))).setCell ⟨x2, 2, none⟩ (.slice A2 na c2))).setCell ⟨x2, 3, none⟩ (.slice A3 ns c3))) := (slat_of_own HO1.out HNP.out (fun x _ => csP8 x) hx2X).mvx m2
 have HA9 : Hid (SlAt Account x2 2 (.slice A2 na c2) A ((((((w3).setCell ⟨x2, 1, none⟩ (.slice A1 np c1))).setCell ⟨x2, 2, none⟩ (.slice A2 na c2))).setCell ⟨x2, 3, none⟩ (.slice A3 ns c3))) := (slat_of_own HO2.out HNA.out (fun x _ => csA8 x) hx2X).mvx m2
 have HS9 : Hid (SlAt Asset x2 8 (.slice A3 ns c3) S' ((((((w3).setCell ⟨x2, 1, none⟩ (.slice A1 np c1))).setCell ⟨x2, 2, none⟩ (.slice A2 na c2))).setCell ⟨x2, 3, none⟩ (.slice A3 ns c3))) := (slat_of_own HO3.out HNS.out (fun x _ => csS8 x) hx2X).mvx m2
 have HG9 := Lib.hid g6
 clear m0 m1 m2 g3 g4 g5 g6 q1 q2 q3 hX2 K3
 go_wp2
 go_ret
 refine ⟨by rw [HZ.out]; rfl, ?_, HB9.out⟩
 rw [HZ.out]
 exact ⟨.slice Al nl cl, .slice A1 np c1, .slice A2 na c2, .slice A3 ns c3, HG9.out, HL9.out, HP9.out, HA9.out, HS9.out⟩
/-- What stands behind several: those ahead, and those that came. -/
theorem go8_mem {α : Type} [Kd α] {valid : ByteArray → Bool} {most : Nat} {ahead behind : α → Int} (l : List α) : ∀ (st : Int × List α), (l.foldl (step8 valid most ahead behind) st).2.length ≤ st.2.length + l.length ∧ ∀ z ∈ (l.foldl (step8 valid most ahead behind) st).2, z ∈ st.2 ∨ z ∈ l := by
 induction l with
 | nil => intro st; exact ⟨Nat.le_refl _, fun z hz => .inl hz⟩
 | cons y l ih =>
  intro st
  rw [List.foldl_cons]
  have h1 := ih (step8 valid most ahead behind st y)
  have h2 : (step8 valid most ahead behind st y).2.length ≤ st.2.length + 1 ∧ ∀ z ∈ (step8 valid most ahead behind st y).2, z ∈ st.2 ∨ z = y := by
   unfold step8
   split
   ·exact ⟨Nat.le_succ _, fun z hz => .inl hz⟩
   ·dsimp only
    split
    ·refine ⟨by rw [insK_len]; exact Nat.le_refl _, fun z hz => ?_⟩
     unfold insK at hz
     rw [List.mem_append, List.mem_append, List.mem_singleton] at hz
     rcases hz with (hz | hz) | hz
     ·exact .inl (mem_takeWhile hz)
     ·exact .inr hz
     ·exact .inl ((List.dropWhile_sublist _).subset hz)
    ·exact ⟨Nat.le_succ _, fun z hz => .inl hz⟩
  refine ⟨by have := h1.1; have := h2.1; simp only [List.length_cons]; omega, fun z hz => ?_⟩
  rcases h1.2 z hz with h3 | h3
  ·rcases h2.2 z h3 with h4 | h4
   ·exact .inl h4
   ·exact .inr (by simp [h4])
  ·exact .inr (by simp [h3])
def errsP8 (st : R8) (l : List Party) : Int := (go8 validS 20 (fun _ => 0) limP st.p l).1
def addsP8 (st : R8) (l : List Party) : R8 := ⟨st.l, out8 validS 20 (fun _ => 0) limP st.p l, st.a, st.s⟩
set_option maxHeartbeats 4000000 in
theorem addsP8_any (x : Nat) (st : R8) (l : List Party) (B : Option Addr) (c : Nat) (w : World) (h : R8At x st w) (hr : RowsAt w w.heap.size B 2 l) (hxB : 0 < l.length → ∀ ad, B = some ad → ad.block ≠ x) (hl : l.length ≤ 50000) (hl1 : st.p.length ≤ 50000) (hl2 : st.a.length ≤ 50000) (hl3 : st.s.length ≤ 50000) (hnm : ∀ z ∈ st.p, z.name.size ≤ 9223372036854775807) (hln : ∀ z ∈ l, z.name.size ≤ 9223372036854775807) :
  Calls Tryz.prog 12 #[.pointer (some ⟨x, 0, none⟩), .slice B l.length c] w fun e w' => e = .returned (.int .i64 (errsP8 st l)) ∧ R8At x (addsP8 st l) w' ∧ Mv [x] [x] w w' := by
 have hxl := h.lt
 obtain ⟨n, hn⟩ : ∃ n, l.length = n := ⟨_, rfl⟩
 obtain ⟨E, hE⟩ : ∃ E, errsP8 st l = E := ⟨_, rfl⟩
 obtain ⟨S', hS⟩ : ∃ S', addsP8 st l = S' := ⟨_, rfl⟩
 have HBAD : Hid (∀ k y Dk e, l[k]? = some y → go8 validS 20 (fun _ => 0) limP st.p (l.take k) = (0, Dk) → err8 validS 20 (fun _ => 0) limP Dk y = e → e ≠ 0 → E = e ∧ S' = st) := fun k y Dk e h1 h2 h3 h4 => by
  have h5 := out8_bad h1 h2 h3 h4
  exact ⟨by rw [← hE]; exact h5.1, by rw [← hS]; unfold addsP8; rw [h5.2]⟩
 have HOK : Hid (∀ Dk, go8 validS 20 (fun _ => 0) limP st.p l = (0, Dk) → E = 0 ∧ S' = ⟨st.l, Dk, st.a, st.s⟩) := fun Dk h1 => by
  have h5 := out8_ok h1
  exact ⟨by rw [← hE]; exact h5.1, by rw [← hS]; unfold addsP8; rw [h5.2]⟩
 rw [hE, hS, hn]
 rw [hn] at hl hxB
 have HN := Lib.hid hn; have HR := Lib.hid hr; have HK := Lib.hid h; have HNM := Lib.hid hnm; have HLN := Lib.hid hln
 have CC := Lib.hid (copied8_any x st w h (by omega) (by omega) (by omega))
 clear hE hS hn hr h hnm hln
 go_enter Tryz.func12, Tryz.ntmps12
 go_wp2_with fail
 refine CC.out.mono ?_
 rintro e w1 ⟨rfl, hk1, hb1⟩
 obtain ⟨x2, hx2⟩ : ∃ x2, w.heap.size = x2 := ⟨_, rfl⟩
 have HB1 := Lib.hid hb1
 have HZ := Lib.hid hx2
 rw [hx2] at hk1 ⊢
 have HK1 := Lib.hid hk1
 clear hk1 hb1 hx2 CC
 go_wp2
 go_loopw [6] (fun nn wr => ∃ (i : Nat) (D : List Party), i ≤ n ∧ nn = .int .i64 i ∧ Hid (go8 validS 20 (fun _ => 0) limP st.p (l.take i) = (0, D)) ∧ Hid (R8At x2 ⟨st.l, D, st.a, st.s⟩ wr) ∧ Hid (Below w.heap.size w wr)) (fun nn _ => n - (intOf nn).toNat)
 case atStart => exact ⟨0, st.p, Nat.zero_le _, rfl, rfl, HK1.out, HB1.out⟩
 case round =>
  clear HK1 HB1
  obtain ⟨i, D, hi, rfl, HGO, HKD, HB⟩ := hrel
  have b1 : (0 : Int) ≤ (i : Int) := by omega
  have hmem := go8_mem (valid := validS) (most := 20) (ahead := (fun _ => 0)) (behind := limP) (l.take i) (0, st.p)
  have hgo2 : ((l.take i).foldl (step8 validS 20 (fun _ => 0) limP) (0, st.p)) = (0, D) := HGO.out
  rw [hgo2] at hmem
  have hDl : D.length ≤ 100000 := by have h9 := hmem.1; rw [List.length_take, HN.out] at h9; dsimp only at h9; omega
  have HDN : Hid (∀ z ∈ D, z.name.size ≤ 9223372036854775807) := fun z hz => by
   rcases hmem.2 z hz with h9 | h9
   ·exact HNM.out z h9
   ·exact HLN.out z (List.mem_of_mem_take h9)
  clear hmem hgo2
  by_cases hlt : i < n
  ·obtain ⟨ad, y, rfl, hab, hyk, hym, hc⟩ := HR.out.at_ (show i < l.length by rw [HN.out]; exact hlt)
   have hc' : ∀ j v, (Kd.val y).cells[j]? = some v → wr.cell? ((ad.add (i * 2)).add j) = some v := fun j v hj => (HB.out.cell (by rw [block_of_add, block_of_add]; exact hab)).trans (hc j v hj)
   have e0 : wr.cell? (ad.add (i * 2)) = some (.string y.name) := by have h := hc' 0 _ rfl; rw [show (ad.add (i * 2)).add 0 = ad.add (i * 2) from by rw [add_of_add]; rfl] at h; exact h
   have e1 : wr.cell? ⟨(ad.add (i * 2)).block, (ad.add (i * 2)).off + 1, none⟩ = some (.int .i64 y.limit) := hc' 1 _ rfl
   have HYK := Lib.hid hyk
   have b2 : (i : Int) < (n : Int) := by omega
   have ADD := addP8_any x2 ⟨st.l, D, st.a, st.s⟩ y wr HKD.out (show D.length ≤ 100000 from hDl) HDN.out (HLN.out y hym)
   have hee : errP8 ⟨st.l, D, st.a, st.s⟩ y = err8 validS 20 (fun _ => 0) limP D y := rfl
   have haa : addP8 ⟨st.l, D, st.a, st.s⟩ y = if err8 validS 20 (fun _ => 0) limP D y = 0 then ⟨st.l, insK D y, st.a, st.s⟩ else ⟨st.l, D, st.a, st.s⟩ := rfl
   rw [hee, haa] at ADD
   obtain ⟨ev, hev⟩ : ∃ ev, err8 validS 20 (fun _ => 0) limP D y = ev := ⟨_, rfl⟩
   rw [hev] at ADD
   have HEV := Lib.hid hev
   have ADD' : Hid (Calls Tryz.prog 57 #[.pointer (some ⟨x2, 0, none⟩), .agg #[.string y.name, .int .i64 y.limit]] wr fun e w' => e = .returned (.int .i64 ev) ∧ R8At x2 (if ev = 0 then ⟨st.l, insK D y, st.a, st.s⟩ else ⟨st.l, D, st.a, st.s⟩) w' ∧ Mv [x2] [x2] wr w') := ADD
   clear hc hc' hyk hym ADD hee haa hev
   go_wp2_with fail
   refine ADD'.out.mono ?_
   rintro e w2 ⟨rfl, hk2, hm2⟩
   have HB2 : Hid (Below w.heap.size w w2) := HB.out.trans (hm2.below (fun q hq => by simp at hq; have := HZ.out; omega) HB.out.size)
   clear hm2 ADD'
   by_cases h0 : ev = 0
   ·rw [if_pos h0] at hk2
    have HK2 := Lib.hid hk2
    have HGO2 := Lib.hid (go8_step HYK.out HGO.out (by rw [HEV.out]; exact h0))
    have h0b : (ev != 0) = false := by simp [h0]
    clear hk2 h0
    go_wp2
    go_roundw
    case rel => exact ⟨i + 1, insK D y, hlt, by go_num, HGO2.out, HK2.out, HB2.out⟩
    case measure => simp [intOf]; omega
   ·have HE := Lib.hid (HBAD.out i y D ev HYK.out HGO.out HEV.out h0)
    have h0b : (ev != 0) = true := by simp [h0]
    clear h0 hk2
    go_wp2
    go_ret
    exact ⟨by rw [HE.out.1]; rfl, by rw [HE.out.2]; exact HK.out.below HB2.out, mv_of_below HB2.out⟩
  ·have hin : i = n := by omega
   have HE : Hid (E = 0 ∧ S' = ⟨st.l, D, st.a, st.s⟩) := HOK.out D (by have h9 := HGO.out; rw [List.take_of_length_le (by rw [HN.out]; omega)] at h9; exact h9)
   have hkx := HK.out.below HB.out
   obtain ⟨vl, vp, va, vs, g1, g2, g3, g4, g5⟩ := HKD.out
   obtain ⟨ul, up, ua, us, f1, f2⟩ := hkx
   have r0 : wr.cell? ⟨x2, 0, none⟩ = some vl := by rw [Lib.cell_of_heap g1]; rfl
   have r1 : wr.cell? ⟨x2, 1, none⟩ = some vp := by rw [Lib.cell_of_heap g1]; rfl
   have r2 : wr.cell? ⟨x2, 2, none⟩ = some va := by rw [Lib.cell_of_heap g1]; rfl
   have r3 : wr.cell? ⟨x2, 3, none⟩ = some vs := by rw [Lib.cell_of_heap g1]; rfl
   obtain ⟨Al, cl, rfl, hcl, hRl, _⟩ := g2
   obtain ⟨Ap, cp, rfl, hcp, hRp, _⟩ := g3
   obtain ⟨Aa, ca, rfl, hca, hRa, _⟩ := g4
   obtain ⟨As, cs, rfl, hcs, hRs, _⟩ := g5
   obtain ⟨⟨Bl, dl, rfl, _⟩, ⟨Bp, dp, rfl, _⟩, ⟨Ba, da, rfl, _⟩, ⟨Bs, ds, rfl, _⟩⟩ := f2
   have HIl : Hid (InAt x (.slice Al st.l.length cl) st.l wr) := ⟨Al, cl, rfl, hcl, hRl, ints_off hRl rfl f1 (by intro z; simp)⟩
   have HIp : Hid (SlAt Party x 2 (.slice Ap D.length cp) D wr) := ⟨Ap, cp, rfl, hcp, hRp, hRp.off f1 (by intro z; simp) (fun y => ⟨_, rfl⟩)⟩
   have HIa : Hid (SlAt Account x 2 (.slice Aa st.a.length ca) st.a wr) := ⟨Aa, ca, rfl, hca, hRa, hRa.off f1 (by intro z; simp) (fun y => ⟨_, rfl⟩)⟩
   have HIs : Hid (SlAt Asset x 8 (.slice As st.s.length cs) st.s wr) := ⟨As, cs, rfl, hcs, hRs, hRs.off f1 (by intro z; simp) (fun y => ⟨_, rfl⟩)⟩
   clear hRl hRp hRa hRs
   have s0 : wr.cell? ⟨x, 0, none⟩ = some (.slice Bl st.l.length dl) := by rw [Lib.cell_of_heap f1]; rfl
   have s1 : wr.cell? ⟨x, 1, none⟩ = some (.slice Bp st.p.length dp) := by rw [Lib.cell_of_heap f1]; rfl
   have s2 : wr.cell? ⟨x, 2, none⟩ = some (.slice Ba st.a.length da) := by rw [Lib.cell_of_heap f1]; rfl
   have s3 : wr.cell? ⟨x, 3, none⟩ = some (.slice Bs st.s.length ds) := by rw [Lib.cell_of_heap f1]; rfl
   have o0 : wr.frozen? ⟨x, 0, none⟩ = false := Lib.frozen_of_heap f1 0
   have o1 : wr.frozen? ⟨x, 1, none⟩ = false := Lib.frozen_of_heap f1 1
   have o2 : wr.frozen? ⟨x, 2, none⟩ = false := Lib.frozen_of_heap f1 2
   have o3 : wr.frozen? ⟨x, 3, none⟩ = false := Lib.frozen_of_heap f1 3
   have HG1 := Lib.hid g1
   have HF1 := Lib.hid f1
   clear g1 f1
   have HMW := Lib.hid ((((mv_set x 0 (.slice Al st.l.length cl) wr).trans (mv_set x 1 (.slice Ap D.length cp) _)).trans (mv_set x 2 (.slice Aa st.a.length ca) _)).trans (mv_set x 3 (.slice As st.s.length cs) _))
   have HGW := Lib.hid (Blk.set_ (Blk.set_ (Blk.set_ (Blk.set_ (show Blk wr x 39 _ from HF1.out) 0 (.slice Al st.l.length cl)) 1 (.slice Ap D.length cp)) 2 (.slice Aa st.a.length ca)) 3 (.slice As st.s.length cs))
   go_wp2
   go_ret
   refine ⟨by rw [HE.out.1]; rfl, ?_, (mv_of_below HB.out).trans HMW.out⟩
   rw [HE.out.2]
   exact ⟨.slice Al st.l.length cl, .slice Ap D.length cp, .slice Aa st.a.length ca, .slice As st.s.length cs, HGW.out, HIl.out.mvx HMW.out, HIp.out.mvx HMW.out, HIa.out.mvx HMW.out, HIs.out.mvx HMW.out⟩
def errsA8 (st : R8) (l : List Account) : Int := (go8 validS 20 (noParty8 st) (fun _ => 0) st.a l).1
def addsA8 (st : R8) (l : List Account) : R8 := ⟨st.l, st.p, out8 validS 20 (noParty8 st) (fun _ => 0) st.a l, st.s⟩
set_option maxHeartbeats 4000000 in
theorem addsA8_any (x : Nat) (st : R8) (l : List Account) (B : Option Addr) (c : Nat) (w : World) (h : R8At x st w) (hr : RowsAt w w.heap.size B 2 l) (hxB : 0 < l.length → ∀ ad, B = some ad → ad.block ≠ x) (hl : l.length ≤ 50000) (hl1 : st.p.length ≤ 50000) (hl2 : st.a.length ≤ 50000) (hl3 : st.s.length ≤ 50000) (hnm : ∀ z ∈ st.a, z.name.size ≤ 9223372036854775807) (hln : ∀ z ∈ l, z.name.size ≤ 9223372036854775807) :
  Calls Tryz.prog 16 #[.pointer (some ⟨x, 0, none⟩), .slice B l.length c] w fun e w' => e = .returned (.int .i64 (errsA8 st l)) ∧ R8At x (addsA8 st l) w' ∧ Mv [x] [x] w w' := by
 have hxl := h.lt
 obtain ⟨n, hn⟩ : ∃ n, l.length = n := ⟨_, rfl⟩
 obtain ⟨E, hE⟩ : ∃ E, errsA8 st l = E := ⟨_, rfl⟩
 obtain ⟨S', hS⟩ : ∃ S', addsA8 st l = S' := ⟨_, rfl⟩
 have HBAD : Hid (∀ k y Dk e, l[k]? = some y → go8 validS 20 (noParty8 st) (fun _ => 0) st.a (l.take k) = (0, Dk) → err8 validS 20 (noParty8 st) (fun _ => 0) Dk y = e → e ≠ 0 → E = e ∧ S' = st) := fun k y Dk e h1 h2 h3 h4 => by
  have h5 := out8_bad h1 h2 h3 h4
  exact ⟨by rw [← hE]; exact h5.1, by rw [← hS]; unfold addsA8; rw [h5.2]⟩
 have HOK : Hid (∀ Dk, go8 validS 20 (noParty8 st) (fun _ => 0) st.a l = (0, Dk) → E = 0 ∧ S' = ⟨st.l, st.p, Dk, st.s⟩) := fun Dk h1 => by
  have h5 := out8_ok h1
  exact ⟨by rw [← hE]; exact h5.1, by rw [← hS]; unfold addsA8; rw [h5.2]⟩
 rw [hE, hS, hn]
 rw [hn] at hl hxB
 have HN := Lib.hid hn; have HR := Lib.hid hr; have HK := Lib.hid h; have HNM := Lib.hid hnm; have HLN := Lib.hid hln
 have CC := Lib.hid (copied8_any x st w h (by omega) (by omega) (by omega))
 clear hE hS hn hr h hnm hln
 go_enter Tryz.func16, Tryz.ntmps16
 go_wp2_with fail
 refine CC.out.mono ?_
 rintro e w1 ⟨rfl, hk1, hb1⟩
 obtain ⟨x2, hx2⟩ : ∃ x2, w.heap.size = x2 := ⟨_, rfl⟩
 have HB1 := Lib.hid hb1
 have HZ := Lib.hid hx2
 rw [hx2] at hk1 ⊢
 have HK1 := Lib.hid hk1
 clear hk1 hb1 hx2 CC
 go_wp2
 go_loopw [6] (fun nn wr => ∃ (i : Nat) (D : List Account), i ≤ n ∧ nn = .int .i64 i ∧ Hid (go8 validS 20 (noParty8 st) (fun _ => 0) st.a (l.take i) = (0, D)) ∧ Hid (R8At x2 ⟨st.l, st.p, D, st.s⟩ wr) ∧ Hid (Below w.heap.size w wr)) (fun nn _ => n - (intOf nn).toNat)
 case atStart => exact ⟨0, st.a, Nat.zero_le _, rfl, rfl, HK1.out, HB1.out⟩
 case round =>
  clear HK1 HB1
  obtain ⟨i, D, hi, rfl, HGO, HKD, HB⟩ := hrel
  have b1 : (0 : Int) ≤ (i : Int) := by omega
  have hmem := go8_mem (valid := validS) (most := 20) (ahead := (noParty8 st)) (behind := (fun _ => 0)) (l.take i) (0, st.a)
  have hgo2 : ((l.take i).foldl (step8 validS 20 (noParty8 st) (fun _ => 0)) (0, st.a)) = (0, D) := HGO.out
  rw [hgo2] at hmem
  have hDl : D.length ≤ 100000 := by have h9 := hmem.1; rw [List.length_take, HN.out] at h9; dsimp only at h9; omega
  have HDN : Hid (∀ z ∈ D, z.name.size ≤ 9223372036854775807) := fun z hz => by
   rcases hmem.2 z hz with h9 | h9
   ·exact HNM.out z h9
   ·exact HLN.out z (List.mem_of_mem_take h9)
  clear hmem hgo2
  by_cases hlt : i < n
  ·obtain ⟨ad, y, rfl, hab, hyk, hym, hc⟩ := HR.out.at_ (show i < l.length by rw [HN.out]; exact hlt)
   have hc' : ∀ j v, (Kd.val y).cells[j]? = some v → wr.cell? ((ad.add (i * 2)).add j) = some v := fun j v hj => (HB.out.cell (by rw [block_of_add, block_of_add]; exact hab)).trans (hc j v hj)
   have e0 : wr.cell? (ad.add (i * 2)) = some (.string y.name) := by have h := hc' 0 _ rfl; rw [show (ad.add (i * 2)).add 0 = ad.add (i * 2) from by rw [add_of_add]; rfl] at h; exact h
   have e1 : wr.cell? ⟨(ad.add (i * 2)).block, (ad.add (i * 2)).off + 1, none⟩ = some (.string y.party) := hc' 1 _ rfl
   have HYK := Lib.hid hyk
   have b2 : (i : Int) < (n : Int) := by omega
   have ADD := addA8_any x2 ⟨st.l, st.p, D, st.s⟩ y wr HKD.out (show D.length ≤ 100000 from hDl) (show st.p.length ≤ 100000 by omega) HDN.out (HLN.out y hym)
   have hee : errA8 ⟨st.l, st.p, D, st.s⟩ y = err8 validS 20 (noParty8 st) (fun _ => 0) D y := rfl
   have haa : addA8 ⟨st.l, st.p, D, st.s⟩ y = if err8 validS 20 (noParty8 st) (fun _ => 0) D y = 0 then ⟨st.l, st.p, insK D y, st.s⟩ else ⟨st.l, st.p, D, st.s⟩ := rfl
   rw [hee, haa] at ADD
   obtain ⟨ev, hev⟩ : ∃ ev, err8 validS 20 (noParty8 st) (fun _ => 0) D y = ev := ⟨_, rfl⟩
   rw [hev] at ADD
   have HEV := Lib.hid hev
   have ADD' : Hid (Calls Tryz.prog 62 #[.pointer (some ⟨x2, 0, none⟩), .agg #[.string y.name, .string y.party]] wr fun e w' => e = .returned (.int .i64 ev) ∧ R8At x2 (if ev = 0 then ⟨st.l, st.p, insK D y, st.s⟩ else ⟨st.l, st.p, D, st.s⟩) w' ∧ Mv [x2] [x2] wr w') := ADD
   clear hc hc' hyk hym ADD hee haa hev
   go_wp2_with fail
   refine ADD'.out.mono ?_
   rintro e w2 ⟨rfl, hk2, hm2⟩
   have HB2 : Hid (Below w.heap.size w w2) := HB.out.trans (hm2.below (fun q hq => by simp at hq; have := HZ.out; omega) HB.out.size)
   clear hm2 ADD'
   by_cases h0 : ev = 0
   ·rw [if_pos h0] at hk2
    have HK2 := Lib.hid hk2
    have HGO2 := Lib.hid (go8_step HYK.out HGO.out (by rw [HEV.out]; exact h0))
    have h0b : (ev != 0) = false := by simp [h0]
    clear hk2 h0
    go_wp2
    go_roundw
    case rel => exact ⟨i + 1, insK D y, hlt, by go_num, HGO2.out, HK2.out, HB2.out⟩
    case measure => simp [intOf]; omega
   ·have HE := Lib.hid (HBAD.out i y D ev HYK.out HGO.out HEV.out h0)
    have h0b : (ev != 0) = true := by simp [h0]
    clear h0 hk2
    go_wp2
    go_ret
    exact ⟨by rw [HE.out.1]; rfl, by rw [HE.out.2]; exact HK.out.below HB2.out, mv_of_below HB2.out⟩
  ·have hin : i = n := by omega
   have HE : Hid (E = 0 ∧ S' = ⟨st.l, st.p, D, st.s⟩) := HOK.out D (by have h9 := HGO.out; rw [List.take_of_length_le (by rw [HN.out]; omega)] at h9; exact h9)
   have hkx := HK.out.below HB.out
   obtain ⟨vl, vp, va, vs, g1, g2, g3, g4, g5⟩ := HKD.out
   obtain ⟨ul, up, ua, us, f1, f2⟩ := hkx
   have r0 : wr.cell? ⟨x2, 0, none⟩ = some vl := by rw [Lib.cell_of_heap g1]; rfl
   have r1 : wr.cell? ⟨x2, 1, none⟩ = some vp := by rw [Lib.cell_of_heap g1]; rfl
   have r2 : wr.cell? ⟨x2, 2, none⟩ = some va := by rw [Lib.cell_of_heap g1]; rfl
   have r3 : wr.cell? ⟨x2, 3, none⟩ = some vs := by rw [Lib.cell_of_heap g1]; rfl
   obtain ⟨Al, cl, rfl, hcl, hRl, _⟩ := g2
   obtain ⟨Ap, cp, rfl, hcp, hRp, _⟩ := g3
   obtain ⟨Aa, ca, rfl, hca, hRa, _⟩ := g4
   obtain ⟨As, cs, rfl, hcs, hRs, _⟩ := g5
   obtain ⟨⟨Bl, dl, rfl, _⟩, ⟨Bp, dp, rfl, _⟩, ⟨Ba, da, rfl, _⟩, ⟨Bs, ds, rfl, _⟩⟩ := f2
   have HIl : Hid (InAt x (.slice Al st.l.length cl) st.l wr) := ⟨Al, cl, rfl, hcl, hRl, ints_off hRl rfl f1 (by intro z; simp)⟩
   have HIp : Hid (SlAt Party x 2 (.slice Ap st.p.length cp) st.p wr) := ⟨Ap, cp, rfl, hcp, hRp, hRp.off f1 (by intro z; simp) (fun y => ⟨_, rfl⟩)⟩
   have HIa : Hid (SlAt Account x 2 (.slice Aa D.length ca) D wr) := ⟨Aa, ca, rfl, hca, hRa, hRa.off f1 (by intro z; simp) (fun y => ⟨_, rfl⟩)⟩
   have HIs : Hid (SlAt Asset x 8 (.slice As st.s.length cs) st.s wr) := ⟨As, cs, rfl, hcs, hRs, hRs.off f1 (by intro z; simp) (fun y => ⟨_, rfl⟩)⟩
   clear hRl hRp hRa hRs
   have s0 : wr.cell? ⟨x, 0, none⟩ = some (.slice Bl st.l.length dl) := by rw [Lib.cell_of_heap f1]; rfl
   have s1 : wr.cell? ⟨x, 1, none⟩ = some (.slice Bp st.p.length dp) := by rw [Lib.cell_of_heap f1]; rfl
   have s2 : wr.cell? ⟨x, 2, none⟩ = some (.slice Ba st.a.length da) := by rw [Lib.cell_of_heap f1]; rfl
   have s3 : wr.cell? ⟨x, 3, none⟩ = some (.slice Bs st.s.length ds) := by rw [Lib.cell_of_heap f1]; rfl
   have o0 : wr.frozen? ⟨x, 0, none⟩ = false := Lib.frozen_of_heap f1 0
   have o1 : wr.frozen? ⟨x, 1, none⟩ = false := Lib.frozen_of_heap f1 1
   have o2 : wr.frozen? ⟨x, 2, none⟩ = false := Lib.frozen_of_heap f1 2
   have o3 : wr.frozen? ⟨x, 3, none⟩ = false := Lib.frozen_of_heap f1 3
   have HG1 := Lib.hid g1
   have HF1 := Lib.hid f1
   clear g1 f1
   have HMW := Lib.hid ((((mv_set x 0 (.slice Al st.l.length cl) wr).trans (mv_set x 1 (.slice Ap st.p.length cp) _)).trans (mv_set x 2 (.slice Aa D.length ca) _)).trans (mv_set x 3 (.slice As st.s.length cs) _))
   have HGW := Lib.hid (Blk.set_ (Blk.set_ (Blk.set_ (Blk.set_ (show Blk wr x 39 _ from HF1.out) 0 (.slice Al st.l.length cl)) 1 (.slice Ap st.p.length cp)) 2 (.slice Aa D.length ca)) 3 (.slice As st.s.length cs))
   go_wp2
   go_ret
   refine ⟨by rw [HE.out.1]; rfl, ?_, (mv_of_below HB.out).trans HMW.out⟩
   rw [HE.out.2]
   exact ⟨.slice Al st.l.length cl, .slice Ap st.p.length cp, .slice Aa D.length ca, .slice As st.s.length cs, HGW.out, HIl.out.mvx HMW.out, HIp.out.mvx HMW.out, HIa.out.mvx HMW.out, HIs.out.mvx HMW.out⟩
def errsS8 (st : R8) (l : List Asset) : Int := (go8 validS 12 (fun _ => 0) canI st.s l).1
def addsS8 (st : R8) (l : List Asset) : R8 := ⟨st.l, st.p, st.a, out8 validS 12 (fun _ => 0) canI st.s l⟩
set_option maxHeartbeats 4000000 in
theorem addsS8_any (x : Nat) (st : R8) (l : List Asset) (B : Option Addr) (c : Nat) (w : World) (h : R8At x st w) (hr : RowsAt w w.heap.size B 8 l) (hxB : 0 < l.length → ∀ ad, B = some ad → ad.block ≠ x) (hl : l.length ≤ 50000) (hl1 : st.p.length ≤ 50000) (hl2 : st.a.length ≤ 50000) (hl3 : st.s.length ≤ 50000) (hnm : ∀ z ∈ st.s, z.name.size ≤ 9223372036854775807) (hln : ∀ z ∈ l, z.name.size ≤ 9223372036854775807) :
  Calls Tryz.prog 20 #[.pointer (some ⟨x, 0, none⟩), .slice B l.length c] w fun e w' => e = .returned (.int .i64 (errsS8 st l)) ∧ R8At x (addsS8 st l) w' ∧ Mv [x] [x] w w' := by
 have hxl := h.lt
 obtain ⟨n, hn⟩ : ∃ n, l.length = n := ⟨_, rfl⟩
 obtain ⟨E, hE⟩ : ∃ E, errsS8 st l = E := ⟨_, rfl⟩
 obtain ⟨S', hS⟩ : ∃ S', addsS8 st l = S' := ⟨_, rfl⟩
 have HBAD : Hid (∀ k y Dk e, l[k]? = some y → go8 validS 12 (fun _ => 0) canI st.s (l.take k) = (0, Dk) → err8 validS 12 (fun _ => 0) canI Dk y = e → e ≠ 0 → E = e ∧ S' = st) := fun k y Dk e h1 h2 h3 h4 => by
  have h5 := out8_bad h1 h2 h3 h4
  exact ⟨by rw [← hE]; exact h5.1, by rw [← hS]; unfold addsS8; rw [h5.2]⟩
 have HOK : Hid (∀ Dk, go8 validS 12 (fun _ => 0) canI st.s l = (0, Dk) → E = 0 ∧ S' = ⟨st.l, st.p, st.a, Dk⟩) := fun Dk h1 => by
  have h5 := out8_ok h1
  exact ⟨by rw [← hE]; exact h5.1, by rw [← hS]; unfold addsS8; rw [h5.2]⟩
 rw [hE, hS, hn]
 rw [hn] at hl hxB
 have HN := Lib.hid hn; have HR := Lib.hid hr; have HK := Lib.hid h; have HNM := Lib.hid hnm; have HLN := Lib.hid hln
 have CC := Lib.hid (copied8_any x st w h (by omega) (by omega) (by omega))
 clear hE hS hn hr h hnm hln
 go_enter Tryz.func20, Tryz.ntmps20
 go_wp2_with fail
 refine CC.out.mono ?_
 rintro e w1 ⟨rfl, hk1, hb1⟩
 obtain ⟨x2, hx2⟩ : ∃ x2, w.heap.size = x2 := ⟨_, rfl⟩
 have HB1 := Lib.hid hb1
 have HZ := Lib.hid hx2
 rw [hx2] at hk1 ⊢
 have HK1 := Lib.hid hk1
 clear hk1 hb1 hx2 CC
 go_wp2
 go_loopw [6] (fun nn wr => ∃ (i : Nat) (D : List Asset), i ≤ n ∧ nn = .int .i64 i ∧ Hid (go8 validS 12 (fun _ => 0) canI st.s (l.take i) = (0, D)) ∧ Hid (R8At x2 ⟨st.l, st.p, st.a, D⟩ wr) ∧ Hid (Below w.heap.size w wr)) (fun nn _ => n - (intOf nn).toNat)
 case atStart => exact ⟨0, st.s, Nat.zero_le _, rfl, rfl, HK1.out, HB1.out⟩
 case round =>
  clear HK1 HB1
  obtain ⟨i, D, hi, rfl, HGO, HKD, HB⟩ := hrel
  have b1 : (0 : Int) ≤ (i : Int) := by omega
  have hmem := go8_mem (valid := validS) (most := 12) (ahead := (fun _ => 0)) (behind := canI) (l.take i) (0, st.s)
  have hgo2 : ((l.take i).foldl (step8 validS 12 (fun _ => 0) canI) (0, st.s)) = (0, D) := HGO.out
  rw [hgo2] at hmem
  have hDl : D.length ≤ 100000 := by have h9 := hmem.1; rw [List.length_take, HN.out] at h9; dsimp only at h9; omega
  have HDN : Hid (∀ z ∈ D, z.name.size ≤ 9223372036854775807) := fun z hz => by
   rcases hmem.2 z hz with h9 | h9
   ·exact HNM.out z h9
   ·exact HLN.out z (List.mem_of_mem_take h9)
  clear hmem hgo2
  by_cases hlt : i < n
  ·obtain ⟨ad, y, rfl, hab, hyk, hym, hc⟩ := HR.out.at_ (show i < l.length by rw [HN.out]; exact hlt)
   have hc' : ∀ j v, (Kd.val y).cells[j]? = some v → wr.cell? ((ad.add (i * 8)).add j) = some v := fun j v hj => (HB.out.cell (by rw [block_of_add, block_of_add]; exact hab)).trans (hc j v hj)
   have e0 : wr.cell? (ad.add (i * 8)) = some (.string y.name) := by have h := hc' 0 _ rfl; rw [show (ad.add (i * 8)).add 0 = ad.add (i * 8) from by rw [add_of_add]; rfl] at h; exact h
   have e1 : wr.cell? ⟨(ad.add (i * 8)).block, (ad.add (i * 8)).off + 1, none⟩ = some (.bool y.cash) := hc' 1 _ rfl
   have e2 : wr.cell? ⟨(ad.add (i * 8)).block, (ad.add (i * 8)).off + 2, none⟩ = some (.bool y.pledge) := hc' 2 _ rfl
   have e3 : wr.cell? ⟨(ad.add (i * 8)).block, (ad.add (i * 8)).off + 3, none⟩ = some (.int .i64 y.unit) := hc' 3 _ rfl
   have e4 : wr.cell? ⟨(ad.add (i * 8)).block, (ad.add (i * 8)).off + 4, none⟩ = some (.int .i64 y.least) := hc' 4 _ rfl
   have e5 : wr.cell? ⟨(ad.add (i * 8)).block, (ad.add (i * 8)).off + 5, none⟩ = some (.int .i64 y.price) := hc' 5 _ rfl
   have e6 : wr.cell? ⟨(ad.add (i * 8)).block, (ad.add (i * 8)).off + 6, none⟩ = some (.int .i64 y.cut) := hc' 6 _ rfl
   have e7 : wr.cell? ⟨(ad.add (i * 8)).block, (ad.add (i * 8)).off + 7, none⟩ = some (.int .i64 y.close) := hc' 7 _ rfl
   have HYK := Lib.hid hyk
   have b2 : (i : Int) < (n : Int) := by omega
   have ADD := addS8_any x2 ⟨st.l, st.p, st.a, D⟩ y wr HKD.out (show D.length ≤ 100000 from hDl) HDN.out (HLN.out y hym)
   have hee : errS8 ⟨st.l, st.p, st.a, D⟩ y = err8 validS 12 (fun _ => 0) canI D y := rfl
   have haa : addS8 ⟨st.l, st.p, st.a, D⟩ y = if err8 validS 12 (fun _ => 0) canI D y = 0 then ⟨st.l, st.p, st.a, insK D y⟩ else ⟨st.l, st.p, st.a, D⟩ := rfl
   rw [hee, haa] at ADD
   obtain ⟨ev, hev⟩ : ∃ ev, err8 validS 12 (fun _ => 0) canI D y = ev := ⟨_, rfl⟩
   rw [hev] at ADD
   have HEV := Lib.hid hev
   have ADD' : Hid (Calls Tryz.prog 68 #[.pointer (some ⟨x2, 0, none⟩), .agg #[.string y.name, .bool y.cash, .bool y.pledge, .int .i64 y.unit, .int .i64 y.least, .int .i64 y.price, .int .i64 y.cut, .int .i64 y.close]] wr fun e w' => e = .returned (.int .i64 ev) ∧ R8At x2 (if ev = 0 then ⟨st.l, st.p, st.a, insK D y⟩ else ⟨st.l, st.p, st.a, D⟩) w' ∧ Mv [x2] [x2] wr w') := ADD
   clear hc hc' hyk hym ADD hee haa hev
   go_wp2_with fail
   refine ADD'.out.mono ?_
   rintro e w2 ⟨rfl, hk2, hm2⟩
   have HB2 : Hid (Below w.heap.size w w2) := HB.out.trans (hm2.below (fun q hq => by simp at hq; have := HZ.out; omega) HB.out.size)
   clear hm2 ADD'
   by_cases h0 : ev = 0
   ·rw [if_pos h0] at hk2
    have HK2 := Lib.hid hk2
    have HGO2 := Lib.hid (go8_step HYK.out HGO.out (by rw [HEV.out]; exact h0))
    have h0b : (ev != 0) = false := by simp [h0]
    clear hk2 h0
    go_wp2
    go_roundw
    case rel => exact ⟨i + 1, insK D y, hlt, by go_num, HGO2.out, HK2.out, HB2.out⟩
    case measure => simp [intOf]; omega
   ·have HE := Lib.hid (HBAD.out i y D ev HYK.out HGO.out HEV.out h0)
    have h0b : (ev != 0) = true := by simp [h0]
    clear h0 hk2
    go_wp2
    go_ret
    exact ⟨by rw [HE.out.1]; rfl, by rw [HE.out.2]; exact HK.out.below HB2.out, mv_of_below HB2.out⟩
  ·have hin : i = n := by omega
   have HE : Hid (E = 0 ∧ S' = ⟨st.l, st.p, st.a, D⟩) := HOK.out D (by have h9 := HGO.out; rw [List.take_of_length_le (by rw [HN.out]; omega)] at h9; exact h9)
   have hkx := HK.out.below HB.out
   obtain ⟨vl, vp, va, vs, g1, g2, g3, g4, g5⟩ := HKD.out
   obtain ⟨ul, up, ua, us, f1, f2⟩ := hkx
   have r0 : wr.cell? ⟨x2, 0, none⟩ = some vl := by rw [Lib.cell_of_heap g1]; rfl
   have r1 : wr.cell? ⟨x2, 1, none⟩ = some vp := by rw [Lib.cell_of_heap g1]; rfl
   have r2 : wr.cell? ⟨x2, 2, none⟩ = some va := by rw [Lib.cell_of_heap g1]; rfl
   have r3 : wr.cell? ⟨x2, 3, none⟩ = some vs := by rw [Lib.cell_of_heap g1]; rfl
   obtain ⟨Al, cl, rfl, hcl, hRl, _⟩ := g2
   obtain ⟨Ap, cp, rfl, hcp, hRp, _⟩ := g3
   obtain ⟨Aa, ca, rfl, hca, hRa, _⟩ := g4
   obtain ⟨As, cs, rfl, hcs, hRs, _⟩ := g5
   obtain ⟨⟨Bl, dl, rfl, _⟩, ⟨Bp, dp, rfl, _⟩, ⟨Ba, da, rfl, _⟩, ⟨Bs, ds, rfl, _⟩⟩ := f2
   have HIl : Hid (InAt x (.slice Al st.l.length cl) st.l wr) := ⟨Al, cl, rfl, hcl, hRl, ints_off hRl rfl f1 (by intro z; simp)⟩
   have HIp : Hid (SlAt Party x 2 (.slice Ap st.p.length cp) st.p wr) := ⟨Ap, cp, rfl, hcp, hRp, hRp.off f1 (by intro z; simp) (fun y => ⟨_, rfl⟩)⟩
   have HIa : Hid (SlAt Account x 2 (.slice Aa st.a.length ca) st.a wr) := ⟨Aa, ca, rfl, hca, hRa, hRa.off f1 (by intro z; simp) (fun y => ⟨_, rfl⟩)⟩
   have HIs : Hid (SlAt Asset x 8 (.slice As D.length cs) D wr) := ⟨As, cs, rfl, hcs, hRs, hRs.off f1 (by intro z; simp) (fun y => ⟨_, rfl⟩)⟩
   clear hRl hRp hRa hRs
   have s0 : wr.cell? ⟨x, 0, none⟩ = some (.slice Bl st.l.length dl) := by rw [Lib.cell_of_heap f1]; rfl
   have s1 : wr.cell? ⟨x, 1, none⟩ = some (.slice Bp st.p.length dp) := by rw [Lib.cell_of_heap f1]; rfl
   have s2 : wr.cell? ⟨x, 2, none⟩ = some (.slice Ba st.a.length da) := by rw [Lib.cell_of_heap f1]; rfl
   have s3 : wr.cell? ⟨x, 3, none⟩ = some (.slice Bs st.s.length ds) := by rw [Lib.cell_of_heap f1]; rfl
   have o0 : wr.frozen? ⟨x, 0, none⟩ = false := Lib.frozen_of_heap f1 0
   have o1 : wr.frozen? ⟨x, 1, none⟩ = false := Lib.frozen_of_heap f1 1
   have o2 : wr.frozen? ⟨x, 2, none⟩ = false := Lib.frozen_of_heap f1 2
   have o3 : wr.frozen? ⟨x, 3, none⟩ = false := Lib.frozen_of_heap f1 3
   have HG1 := Lib.hid g1
   have HF1 := Lib.hid f1
   clear g1 f1
   have HMW := Lib.hid ((((mv_set x 0 (.slice Al st.l.length cl) wr).trans (mv_set x 1 (.slice Ap st.p.length cp) _)).trans (mv_set x 2 (.slice Aa st.a.length ca) _)).trans (mv_set x 3 (.slice As D.length cs) _))
   have HGW := Lib.hid (Blk.set_ (Blk.set_ (Blk.set_ (Blk.set_ (show Blk wr x 39 _ from HF1.out) 0 (.slice Al st.l.length cl)) 1 (.slice Ap st.p.length cp)) 2 (.slice Aa st.a.length ca)) 3 (.slice As D.length cs))
   go_wp2
   go_ret
   refine ⟨by rw [HE.out.1]; rfl, ?_, (mv_of_below HB.out).trans HMW.out⟩
   rw [HE.out.2]
   exact ⟨.slice Al st.l.length cl, .slice Ap st.p.length cp, .slice Aa st.a.length ca, .slice As D.length cs, HGW.out, HIl.out.mvx HMW.out, HIp.out.mvx HMW.out, HIa.out.mvx HMW.out, HIs.out.mvx HMW.out⟩
end Go.Proofs.YtnpkplegeddhcaaGreat
namespace Go.Proofs.YtnpkplegeddhcaaGreat
open Go.RowKit Go.Maps Go.Shelf
attribute [local go_sem ↓] Go.wp_at_zero Go.wp_at_succ
set_option maxRecDepth 100000

theorem type_ne {w : World} {a b : Nat} {cs cs' : Array Value} {t t' : TypeId} (ha : w.heap[a]? = some (.cells cs t (0, 0))) (hb : w.heap[b]? = some (.cells cs' t' (0, 0))) (ht : t ≠ t') : a ≠ b := by
 rintro rfl
 rw [ha] at hb
 injection hb with hb
 injection hb with _ hb
 exact ht hb
theorem RefAt.aside {r b : Nat} {st : Rf} {w w' : World} {S' : List Nat} {cs : Array Value} {t : TypeId} (h : RefAt r st w) (hm : Mv [b] S' w w') (hb : w.heap[b]? = some (.cells cs t (0, 0))) (ht : 82 ≠ t) (ht2 : 106 ≠ t) : RefAt r st w' := by
 have hx := h.lt
 obtain ⟨c, vp, va, vs, h1, hp, ha, h2, h3, h4, h5, h6⟩ := h
 have keep : ∀ {α : Type} [Kd α] {v : Value} {D : DataW Unit}, MapAt α v D w → MapAt α v D w' := by
  intro α _ v D hm2
  rcases hm2 with h | ⟨q, h7, h8⟩
  ·exact .inl h
  ·exact .inr ⟨q, h7, own_keep h8 (hm.block q h8.lt (by have := blk_own_ne h8 hb; simpa using this))⟩
 refine ⟨c, vp, va, vs, (hm.block r hx (by simpa using type_ne h1 hb ht)).trans h1, hp, ha, keep h2, keep h3, keep h4, ?_, h6⟩
 have hcl := h5.lt
 obtain ⟨q, n, h9, h10⟩ := h5
 refine ⟨q, n, (hm.block c hcl (by simpa using type_ne h9 hb ht2)).trans h9, ?_⟩
 have hbr := blk_own_ne h10 hb
 have hbl := h10.lt
 obtain ⟨es, clock, h11, h12⟩ := h10
 exact ⟨es, clock, (hm.block q hbl (by simpa using hbr)).trans h11, h12⟩
theorem R8At.aside {x b : Nat} {st : R8} {w w' : World} {S' : List Nat} {cs : Array Value} {t : TypeId} (h : R8At x st w) (hm : Mv [b] S' w w') (hb : w.heap[b]? = some (.cells cs t (0, 0))) (ht : 39 ≠ t) (hs : ∀ s, Value.string s ∉ cs) (hz : ∀ z, Value.int .i64 z ∉ cs) : R8At x st w' := by
 have hx := h.lt
 obtain ⟨vl, vp, va, vs, h1, ⟨Al, cl, e1, a1, b1, d1⟩, ⟨Ap, cp, e2, a2, b2, d2⟩, ⟨Aa, ca, e3, a3, b3, d3⟩, ⟨As, cs', e4, a4, b4, d4⟩⟩ := h
 refine ⟨vl, vp, va, vs, (hm.block x hx (by simpa using type_ne h1 hb ht)).trans h1, ⟨Al, cl, e1, a1, ?_, d1⟩, ⟨Ap, cp, e2, a2, b2.mvx hm (b2.off hb hs (fun y => ⟨_, rfl⟩)), d2⟩, ⟨Aa, ca, e3, a3, b3.mvx hm (b3.off hb hs (fun y => ⟨_, rfl⟩)), d3⟩, ⟨As, cs', e4, a4, b4.mvx hm (b4.off hb hs (fun y => ⟨_, rfl⟩)), d4⟩⟩
 have hof := ints_off b1 rfl hb hz
 refine ⟨b1.1, fun hn => ?_⟩
 obtain ⟨ad, e, hlt, hc⟩ := b1.2 hn
 refine ⟨ad, e, Nat.lt_of_lt_of_le hlt hm.size, fun j u hu => ?_⟩
 rw [World.cell?_of_block (w := w) (w' := w') (by rw [block_of_add]; exact hm.block _ hlt (by simpa using hof hn ad e))]
 exact hc j u hu
theorem R8At.heap {x : Nat} {st : R8} {w : World} (h : R8At x st w) : ∃ cs, w.heap[x]? = some (.cells cs 39 (0, 0)) := by
 obtain ⟨_, _, _, _, h, _⟩ := h
 exact ⟨_, h⟩
theorem RefAt.heap {r : Nat} {st : Rf} {w : World} (h : RefAt r st w) : ∃ c p a s, w.heap[r]? = some (.cells #[.pointer c, .map p, .map a, .map s] 82 (0, 0)) := by
 obtain ⟨c, vp, va, vs, h1, ⟨_, rfl⟩, ⟨_, rfl⟩, _, _, h4, _⟩ := h
 rcases h4 with ⟨rfl, _⟩ | ⟨b, rfl, _⟩ <;> exact ⟨_, _, _, _, h1⟩
def x0 : R8 := ⟨[], [⟨bankS, 0⟩], [⟨bankS, bankS⟩], []⟩
set_option maxHeartbeats 4000000 in
theorem new8_any (w : World) : Calls Tryz.prog 7 #[.slice none 0 0] w fun e w' => ∃ x, e = .returned (.pointer (some ⟨x, 0, none⟩)) ∧ w.heap.size ≤ x ∧ R8At x x0 w' ∧ Below w.heap.size w w' := by
 have HP := Lib.hid (rows_newN (N := 2) w ([⟨bankS, 0⟩] : List Party) 84 #[.string ⟨#[66, 65, 78, 75]⟩, .int .i64 0] rfl (fun _ _ => rfl))
 obtain ⟨W1, hW1⟩ : ∃ W1, w.alloc (.cells #[.string ⟨#[66, 65, 78, 75]⟩, .int .i64 0] 84) = W1 := ⟨_, rfl⟩
 rw [hW1] at HP
 have hb1 : Below w.heap.size w W1 := by rw [← hW1]; exact (Below.refl _ _).alloc (Nat.le_refl _) _
 have hz1 : W1.heap.size = w.heap.size + 1 := by rw [← hW1]; simp
 have HA := Lib.hid (rows_newN (N := 2) W1 ([⟨bankS, bankS⟩] : List Account) 88 #[.string ⟨#[66, 65, 78, 75]⟩, .string ⟨#[66, 65, 78, 75]⟩] rfl (fun _ _ => rfl))
 obtain ⟨W2, hW2⟩ : ∃ W2, W1.alloc (.cells #[.string ⟨#[66, 65, 78, 75]⟩, .string ⟨#[66, 65, 78, 75]⟩] 88) = W2 := ⟨_, rfl⟩
 rw [hW2] at HA
 have hb2 : Below W1.heap.size W1 W2 := by rw [← hW2]; exact (Below.refl _ _).alloc (Nat.le_refl _) _
 have hz2 : W2.heap.size = W1.heap.size + 1 := by rw [← hW2]; simp
 have HB1 := Lib.hid hb1; have HB2 := Lib.hid hb2; have HZ1 := Lib.hid hz1; have HZ2 := Lib.hid hz2
 clear hb1 hb2 hz1 hz2
 go_enter Tryz.func7, Tryz.ntmps7
 go_wp2
 go_ret
 have hb3 : Below W2.heap.size W2 (W2.alloc (.cells #[.slice none 0 0, .slice (some ⟨w.heap.size, 0, none⟩) 1 1, .slice (some ⟨W1.heap.size, 0, none⟩) 1 1, .slice none 0 0] 39)) := (Below.refl _ _).alloc (Nat.le_refl _) _
 have z1 := HZ1.out
 have z2 := HZ2.out
 have hP := (HP.out.below HB2.out).below hb3
 have hA := HA.out.below hb3
 refine ⟨W2.heap.size, rfl, by omega, ⟨.slice none 0 0, .slice (some ⟨w.heap.size, 0, none⟩) 1 1, .slice (some ⟨W1.heap.size, 0, none⟩) 1 1, .slice none 0 0, heap_alloc_new _ _, ⟨none, 0, rfl, Nat.le_refl _, Reads.none_, fun h => absurd h (by simp [x0])⟩, ⟨_, _, rfl, Nat.le_refl _, hP, fun _ ad e => by injection e with e; subst e; show w.heap.size ≠ W2.heap.size; omega⟩, ⟨_, _, rfl, Nat.le_refl _, hA, fun _ ad e => by injection e with e; subst e; show W1.heap.size ≠ W2.heap.size; omega⟩, ⟨none, 0, rfl, Nat.le_refl _, ⟨fun h => absurd h (by simp [x0])⟩, fun h => absurd h (by simp [x0])⟩⟩, (HB1.out.trans (HB2.out.mono HB1.out.size)).trans (hb3.mono (by omega))⟩
end Go.Proofs.YtnpkplegeddhcaaGreat
