/-
  The document's disk (complineref5.Disk): Crash as a contract.
  Conditions: a disk that is sound (D5.Ok); numbers in memory.
-/
import Derived.Test.YtfmbadinfhpihaaGreatD5c
set_option linter.unusedVariables false
set_option linter.unusedSimpArgs false
namespace Go.Proofs.YtfmbadinfhpihaaGreat
open Go.RowKit Go.Maps
attribute [local go_sem ↓] Go.wp_at_zero Go.wp_at_succ
set_option maxRecDepth 100000

/-- One cell of the disk's row turned. -/
theorem D5At.stored {x g N c base j : Nat} {r : D5} {w : World} {l' : List Fl} {v : Value} (hown : w.ownsRow base 121 3 (.slice (some ⟨g, 0, none⟩) N c) N (cellsOf r.l))
    (hx : w.heap[x]? = some (.cells #[.bool r.on, .slice (some ⟨g, 0, none⟩) N c, .int .i64 r.ops, .int .i64 r.fuse] 91 (0, 0))) (hne : x ≠ g) (e : (cellsOf r.l).set j v = cellsOf l') (hl : l'.length = N) :
    D5At x [x, g] (r.with l') (w.setCell ⟨g, j, none⟩ v) := by
  subst hl
  have ho := (hown.stored j v).1
  rw [e] at ho
  have ho' : (w.setCell ⟨g, j, none⟩ v).ownsRow 0 121 3 (.slice (some ⟨g, 0, none⟩) l'.length c) l'.length (cellsOf l') := by
    refine ⟨ho.1, ?_⟩
    rcases ho.2 with h | ⟨g', cap, cur, e', hbg, rest⟩
    · exact .inl h
    · exact .inr ⟨g', cap, cur, e', Nat.zero_le _, rest⟩
  exact ⟨.slice (some ⟨g, 0, none⟩) l'.length c, by simp [Value.ownBlock], (Below.heap_setCell _ _ _ _ hne).trans hx, ho', by simp [Value.ownBlock]; exact fun e => hne e.symm⟩
set_option maxHeartbeats 8000000 in
theorem sync5_any (x : Nat) (S : List Nat) (r : D5) (s : ByteArray) (w : World) (h : D5At x S r w) (hok : r.Ok) :
    Calls Tryz.prog 69 #[.pointer (some ⟨x, 0, none⟩), .string s] w fun e w' => ∃ S', e = .returned (.int .i64 (sync5 r s).1) ∧ D5At x S' (sync5 r s).2 w' ∧ Mv S S' w w' := by
  have HOP := Lib.hid (op5_any x S r w h hok.ops0 hok.ops1 hok.fuse0 hok.fuse1)
  have HOK := Lib.hid hok
  obtain ⟨E, hE⟩ : ∃ E, (sync5 r s).1 = E := ⟨_, rfl⟩
  obtain ⟨R', hR⟩ : ∃ R', (sync5 r s).2 = R' := ⟨_, rfl⟩
  rw [hE, hR]
  have HER : Hid ((sync5 r s) = (E, R')) := by show _ = _; rw [← hE, ← hR]
  obtain ⟨sb, hsb⟩ : ∃ sb, stays5 r = sb := ⟨_, rfl⟩
  rw [hsb] at HOP
  have HSB := Lib.hid hsb
  clear hE hR hsb h hok
  go_enter Tryz.func69, Tryz.ntmps69
  go_wp2_with fail
  refine HOP.out.mono ?_
  rintro e w1 ⟨rfl, hk1, hm1⟩
  have HK1 := Lib.hid hk1
  have HM1 := Lib.hid (mv_own hk1 hm1)
  clear hk1 hm1 HOP
  have FD := find5_any x S (op5 r) s w1 HK1.out (by rw [op5_l]; have := HOK.out.few; omega)
  rw [op5_l] at FD
  have HFD := Lib.hid FD
  clear FD
  go_wp2_with fail
  refine HFD.out.mono ?_
  rintro e w2 ⟨rfl, hw2⟩
  obtain rfl : w1 = w2 := hw2
  clear HFD
  rcases idx5_cases r.l s with ⟨k, y, hi, hk, hy, hb, hf⟩ | ⟨hi, hf⟩
  · rw [hi]
    have b1 : (0 : Int) ≤ (k : Int) := by omega
    cases sb
    · have HQ := Lib.hid (HER.out.symm.trans (by unfold sync5; rw [if_neg (by rw [HSB.out]; decide)]))
      go_wp2
      go_ret
      refine ⟨S, by rw [(Prod.mk.inj HQ.out).1]; rfl, by rw [(Prod.mk.inj HQ.out).2]; exact HK1.out, HM1.out⟩
    · have HQ := Lib.hid (HER.out.symm.trans (show sync5 r s = (0, (op5 r).with (r.l.set k (syncF y))) by unfold sync5; rw [if_pos HSB.out, if_pos (by rw [hf]; rfl), (updF_at (f := syncF) hb hk hy).1]))
      obtain ⟨A, c, hcell, hcap, hrow⟩ := HK1.out.row
      rw [op5_l] at hcell hcap hrow
      obtain ⟨n, hn⟩ : ∃ n, r.l.length = n := ⟨_, rfl⟩
      rw [hn] at hcell hcap
      have hkn : k < n := by rw [← hn]; exact (List.getElem?_eq_some_iff.1 hk).1
      have hfew : n ≤ 50000 := by rw [← hn]; exact HOK.out.few
      have HYK := Lib.hid hk
      obtain ⟨ad, y', rfl, hab, hyk, hym, hc⟩ := hrow.at_ (show k < r.l.length by rw [hn]; exact hkn)
      clear hyk hym hc y'
      have HROW := Lib.hid hrow; have HN := Lib.hid hn
      have b2 : (k : Int) < (n : Int) := by omega
      clear hi hk hy hb hf hrow hn
      obtain ⟨i0, z0, hinf, hz0, hz1, hz2, hz3⟩ := info_all infoF
      have hxl1 : x < w1.heap.size := HK1.out.lt
      have f10 := HK1.out.frozen 1
      go_wp2_with (at_builtin; go_loud (refine wpList_append_any _ rfl _ _ 89 rfl w1.heap.size 121 i0 z0 3 40 Tryz.underlying89 hinf hz0 hz1 hz2 hz3 (by decide) _ _ _ rfl (World.ownsRow_nil w1 w1.heap.size _ 3) w1.heap.size (some ad) n c (cellsOf r.l) rfl ?d1 ?d2 ?d3 ?d4 ?d5 ?_))
      case d1 => have h := HROW.out.reads (fun z _ => csF z); rw [HN.out] at h; exact h
      case d2 => exact cellsOf_one r.l oneF5
      case d3 => unfold maxLen; omega
      case d4 => omega
      case d5 => exact Nat.le_refl _
      intro v4 w4 hown4 hgrow4 _
      have hb4 : Below w1.heap.size w1 w4 := ⟨hgrow4.os, hgrow4.tape, hgrow4.output, hgrow4.size, fun k hk => hgrow4.block k hk (by simp [Value.ownBlock])⟩
      have hown4' : w4.ownsRow w1.heap.size 121 3 v4 n (cellsOf r.l) := by simpa using hown4
      clear hown4 hgrow4
      obtain ⟨g4, c4, rfl, hc4, hg4⟩ := hown4'.form (by omega)
      have hge : w1.heap.size ≤ g4 := (hown4'.lt g4 rfl).1
      have hxg : x ≠ g4 := by omega
      have e4 : w4.cell? ⟨x, 1, none⟩ = some (.slice (some ad) n c) := (hb4.cell (p := ⟨x, 1, none⟩) hxl1).trans hcell
      have HK4 := Lib.hid (HK1.out.below hb4)
      have f4 : w4.frozen? ⟨x, 1, none⟩ = false := HK4.out.frozen 1
      obtain ⟨W5, HW5⟩ : ∃ W, Hid (w4.setCell ⟨x, 1, none⟩ (.slice (some ⟨g4, 0, none⟩) n c4) = W) := ⟨_, rfl⟩
      have hown5 : W5.ownsRow w1.heap.size 121 3 (.slice (some ⟨g4, 0, none⟩) n c4) n (cellsOf r.l) := by
        rw [← HW5.out]
        exact own_keep' hown4' (fun k hk => Below.heap_setCell _ _ _ _ (fun e => hxg (by injection hk with hk; exact (e.symm.trans hk.symm))))
      have hx5 : W5.heap[x]? = some (.cells #[.bool (op5 r).on, .slice (some ⟨g4, 0, none⟩) n c4, .int .i64 (op5 r).ops, .int .i64 (op5 r).fuse] 91 (0, 0)) := by
        rw [← HW5.out]
        obtain ⟨v9, _, h9, _⟩ := HK4.out
        exact Blk.set_ (show Blk w4 x 91 _ from h9) 1 _
      have hm5 : Mv S [x, g4] w1 W5 := by
        rw [← HW5.out]
        exact mv_row (x := x) HK1.out.own hb4 (fun q hq => (hown4'.lt q hq).1) 1
      have hcd : (cellsOf r.l)[k * 3 + 1]? = some (.string y.data) := cells_at (N := 3) (fun z _ => csF z) HYK.out rfl
      have hcf : (cellsOf r.l)[k * 3 + 2]? = some (.int .i64 y.safe) := cells_at (N := 3) (fun z _ => csF z) HYK.out rfl
      have s5 : W5.drew.cell? ⟨x, 1, none⟩ = some (.slice (some ⟨g4, 0, none⟩) n c4) := by show W5.cell? _ = _; rw [Lib.cell_of_heap hx5]; rfl
      have e5 : W5.drew.cell? ⟨g4, k * 3 + 1, none⟩ = some (.string y.data) := by
        have h := hown5.cells (g := g4) rfl _ _ hcd
        rw [Addr.add_lit, Nat.zero_add] at h
        exact h
      have e5f : W5.drew.cell? ⟨g4, k * 3 + 2, none⟩ = some (.int .i64 y.safe) := by
        have h := hown5.cells (g := g4) rfl _ _ hcf
        rw [Addr.add_lit, Nat.zero_add] at h
        exact h
      have f5 : W5.drew.frozen? ⟨g4, k * 3 + 2, none⟩ = false := hown5.frozenAt (k * 3 + 2)
      have HFIN : Hid (D5At x [x, g4] ((op5 r).with (r.l.set k (syncF y))) (W5.drew.setCell ⟨g4, k * 3 + 2, none⟩ (.int .i64 (y.data.size : Int))) ∧ Mv S [x, g4] w (W5.drew.setCell ⟨g4, k * 3 + 2, none⟩ (.int .i64 (y.data.size : Int)))) := by
        refine ⟨?_, ?_⟩
        · have h := D5At.stored (x := x) (r := (op5 r).with r.l) (w := W5.drew) (l' := r.l.set k (syncF y)) (j := k * 3 + 2) (v := .int .i64 (y.data.size : Int)) hown5 hx5 hxg (cells_upd (N := 3) (y' := (syncF y)) (fun z _ => csF z) HYK.out rfl (by decide)) (by rw [List.length_set]; exact HN.out)
          exact h
        · refine HM1.out.trans (hm5.trans ?_)
          exact (((Mv.refl [x, g4] W5).drewN 1).set_ (by simp) _ _)
      clear hown4' hown5 hx5 hm5 hcd hcf hb4
      go_upto_region 8 with (fail)
      rw [HW5.out]
      clear e4 f4
      refine wp_region_held_drew (S := fun Y => Y.cell? ⟨x, 1, none⟩ = some (.slice (some ⟨g4, 0, none⟩) n c4)) (by kernel_rfl) s5 (fun hHeld => ?_)
      refine wpAnyH_take (i := 0) (v := ?_) rfl (by kernel_rfl) (by kernel_rfl) (by kernel_rfl) (fun _ _ _ h => h) (Or.inl ⟨by rfl, ?_⟩) (by assumption) ?_
      rotate_left
      · intro X hSw; (try dsimp only at hSw); (try simp only [List.getElem_toArray, List.getElem_cons_succ, List.getElem_cons_zero]); first | (go_simp; done) | (go_simp; with_reducible rfl)
      try simp only [Act.put, List.setIfInBounds_toArray, List.set_cons_zero, List.set_cons_succ, List.getElem_toArray, List.getElem_cons_succ, List.getElem_cons_zero]
      refine wpAnyH_take (i := 1) (v := ?_) rfl (by kernel_rfl) (by kernel_rfl) (by kernel_rfl) (fun _ _ _ h => h) (Or.inl ⟨by rfl, ?_⟩) (by assumption) ?_
      rotate_left
      · intro X hSw; (try dsimp only at hSw); (try simp only [List.getElem_toArray, List.getElem_cons_succ, List.getElem_cons_zero]); first | (go_simp; done) | (go_simp; with_reducible rfl)
      try simp only [Act.put, List.setIfInBounds_toArray, List.set_cons_zero, List.set_cons_succ, List.getElem_toArray, List.getElem_cons_succ, List.getElem_cons_zero]
      refine wpAnyH_take (i := 2) (v := ?_) rfl (by kernel_rfl) (by kernel_rfl) (by kernel_rfl) (fun _ _ _ h => h) (Or.inl ⟨by rfl, ?_⟩) (by assumption) ?_
      rotate_left
      · intro X hSw; (try dsimp only at hSw); (try simp only [List.getElem_toArray, List.getElem_cons_succ, List.getElem_cons_zero]); first | (go_simp; done) | (go_simp; with_reducible rfl)
      try simp only [Act.put, List.setIfInBounds_toArray, List.set_cons_zero, List.set_cons_succ, List.getElem_toArray, List.getElem_cons_succ, List.getElem_cons_zero]
      refine wpAnyH_take (i := 3) (v := ?_) rfl (by kernel_rfl) (by kernel_rfl) (by kernel_rfl) (fun _ _ _ h => h) (Or.inl ⟨by rfl, ?_⟩) (by assumption) ?_
      rotate_left
      · intro X hSw; (try dsimp only at hSw); (try simp only [List.getElem_toArray, List.getElem_cons_succ, List.getElem_cons_zero]); first | (go_simp; done) | (go_simp; with_reducible rfl)
      try simp only [Act.put, List.setIfInBounds_toArray, List.set_cons_zero, List.set_cons_succ, List.getElem_toArray, List.getElem_cons_succ, List.getElem_cons_zero]
      refine wpAnyH_take (i := 4) (v := ?_) rfl (by kernel_rfl) (by kernel_rfl) (by kernel_rfl) (fun _ _ _ h => h) (Or.inl ⟨by rfl, ?_⟩) (by assumption) ?_
      rotate_left
      · intro X hSw; (try dsimp only at hSw); (try simp only [List.getElem_toArray, List.getElem_cons_succ, List.getElem_cons_zero]); first | (go_simp; done) | (go_simp; with_reducible rfl)
      try simp only [Act.put, List.setIfInBounds_toArray, List.set_cons_zero, List.set_cons_succ, List.getElem_toArray, List.getElem_cons_succ, List.getElem_cons_zero]
      refine wpAnyH_take (i := 5) (v := ?_) rfl (by kernel_rfl) (by kernel_rfl) (by kernel_rfl) (fun _ _ _ h => h) (Or.inl ⟨by rfl, ?_⟩) (by assumption) ?_
      rotate_left
      · intro X hSw; (try dsimp only at hSw); (try simp only [List.getElem_toArray, List.getElem_cons_succ, List.getElem_cons_zero]); first | (go_simp; done) | (go_simp; with_reducible rfl)
      try simp only [Act.put, List.setIfInBounds_toArray, List.set_cons_zero, List.set_cons_succ, List.getElem_toArray, List.getElem_cons_succ, List.getElem_cons_zero]
      refine wpAnyH_take (i := 6) (v := ?_) rfl (by kernel_rfl) (by kernel_rfl) (by kernel_rfl) (fun _ _ _ h => h) (Or.inl ⟨by rfl, ?_⟩) (by assumption) ?_
      rotate_left
      · intro X hSw; (try dsimp only at hSw); (try simp only [List.getElem_toArray, List.getElem_cons_succ, List.getElem_cons_zero]); first | (go_simp; done) | (go_simp; with_reducible rfl)
      try simp only [Act.put, List.setIfInBounds_toArray, List.set_cons_zero, List.set_cons_succ, List.getElem_toArray, List.getElem_cons_succ, List.getElem_cons_zero]
      refine wpAnyH_take (i := 7) (v := ?_) rfl (by kernel_rfl) (by kernel_rfl) (by kernel_rfl) (fun _ _ _ h => h) (Or.inl ⟨by rfl, ?_⟩) (by assumption) ?_
      rotate_left
      · intro X hSw; (try dsimp only at hSw); (try simp only [List.getElem_toArray, List.getElem_cons_succ, List.getElem_cons_zero]); first | (go_simp; done) | (go_simp; with_reducible rfl)
      try simp only [Act.put, List.setIfInBounds_toArray, List.set_cons_zero, List.set_cons_succ, List.getElem_toArray, List.getElem_cons_succ, List.getElem_cons_zero]
      refine wpAnyH_take (i := 8) (v := ?_) rfl (by kernel_rfl) (by kernel_rfl) (by kernel_rfl) (fun _ _ _ h => h) (Or.inl ⟨by rfl, ?_⟩) (by assumption) ?_
      rotate_left
      · intro X hSw; (try dsimp only at hSw); (try simp only [List.getElem_toArray, List.getElem_cons_succ, List.getElem_cons_zero]); first | (go_simp; done) | (go_simp; with_reducible rfl)
      try simp only [Act.put, List.setIfInBounds_toArray, List.set_cons_zero, List.set_cons_succ, List.getElem_toArray, List.getElem_cons_succ, List.getElem_cons_zero]
      refine wpAnyH_take (i := 9) (v := ?_) rfl (by kernel_rfl) (by kernel_rfl) (by kernel_rfl) (fun _ _ _ h => h) (Or.inl ⟨by rfl, ?_⟩) (by assumption) ?_
      rotate_left
      · intro X hSw; (try dsimp only at hSw); (try simp only [List.getElem_toArray, List.getElem_cons_succ, List.getElem_cons_zero]); first | (go_simp; done) | (go_simp; with_reducible rfl)
      try simp only [Act.put, List.setIfInBounds_toArray, List.set_cons_zero, List.set_cons_succ, List.getElem_toArray, List.getElem_cons_succ, List.getElem_cons_zero]
      refine wpAnyH_take (i := 10) (v := ?_) rfl (by kernel_rfl) (by kernel_rfl) (by kernel_rfl) (fun _ _ _ h => h) (Or.inl ⟨by rfl, ?_⟩) (by assumption) ?_
      rotate_left
      · intro X hSw; (try dsimp only at hSw); (try simp only [List.getElem_toArray, List.getElem_cons_succ, List.getElem_cons_zero]); first | (go_simp; done) | (go_simp; with_reducible rfl)
      try simp only [Act.put, List.setIfInBounds_toArray, List.set_cons_zero, List.set_cons_succ, List.getElem_toArray, List.getElem_cons_succ, List.getElem_cons_zero]
      refine wpAnyH_take (i := 11) (v := ?_) rfl (by kernel_rfl) (by kernel_rfl) (by kernel_rfl) (fun _ _ _ h => h) (Or.inl ⟨by rfl, ?_⟩) (by assumption) ?_
      rotate_left
      · intro X hSw; (try dsimp only at hSw); (try simp only [List.getElem_toArray, List.getElem_cons_succ, List.getElem_cons_zero]); first | (go_simp; done) | (go_simp; with_reducible rfl)
      try simp only [Act.put, List.setIfInBounds_toArray, List.set_cons_zero, List.set_cons_succ, List.getElem_toArray, List.getElem_cons_succ, List.getElem_cons_zero]
      refine wpAnyH_ready (rs := [12]) (by kernel_rfl) (by simp) (AllReadyH.cons rfl (fun K hK => ?_) AllReadyH.nil)
      try simp only [List.getElem_toArray, List.getElem_cons_succ, List.getElem_cons_zero]
      go_simp
      refine hK.out _ _ s5 (fun hHeld => ?_)
      clear hK K
      try simp only [Act.put, List.setIfInBounds_toArray, List.set_cons_zero, List.set_cons_succ, List.getElem_toArray, List.getElem_cons_succ, List.getElem_cons_zero]
      refine wpAnyH_take (i := 13) (v := ?_) rfl (by kernel_rfl) (by kernel_rfl) (by kernel_rfl) (fun _ _ _ h => h) (Or.inl ⟨by rfl, ?_⟩) (by assumption) ?_
      rotate_left
      · intro X hSw; (try dsimp only at hSw); (try simp only [List.getElem_toArray, List.getElem_cons_succ, List.getElem_cons_zero]); first | (go_simp; done) | (go_simp; with_reducible rfl)
      try simp only [Act.put, List.setIfInBounds_toArray, List.set_cons_zero, List.set_cons_succ, List.getElem_toArray, List.getElem_cons_succ, List.getElem_cons_zero]
      refine wpAnyH_take (i := 14) (v := ?_) rfl (by kernel_rfl) (by kernel_rfl) (by kernel_rfl) (fun _ _ _ h => h) (Or.inl ⟨by rfl, ?_⟩) (by assumption) ?_
      rotate_left
      · intro X hSw; (try dsimp only at hSw); (try simp only [List.getElem_toArray, List.getElem_cons_succ, List.getElem_cons_zero]); first | (go_simp; done) | (go_simp; with_reducible rfl)
      try simp only [Act.put, List.setIfInBounds_toArray, List.set_cons_zero, List.set_cons_succ, List.getElem_toArray, List.getElem_cons_succ, List.getElem_cons_zero]
      refine wpAnyH_take (i := 15) (v := ?_) rfl (by kernel_rfl) (by kernel_rfl) (by kernel_rfl) (fun _ _ _ h => h) (Or.inl ⟨by rfl, ?_⟩) (by assumption) ?_
      rotate_left
      · intro X hSw; (try dsimp only at hSw); (try simp only [List.getElem_toArray, List.getElem_cons_succ, List.getElem_cons_zero]); first | (go_simp; done) | (go_simp; with_reducible rfl)
      try simp only [Act.put, List.setIfInBounds_toArray, List.set_cons_zero, List.set_cons_succ, List.getElem_toArray, List.getElem_cons_succ, List.getElem_cons_zero]
      refine wpAnyH_ready (rs := [16]) (by kernel_rfl) (by simp) (AllReadyH.cons rfl (fun K hK => ?_) AllReadyH.nil)
      try simp only [List.getElem_toArray, List.getElem_cons_succ, List.getElem_cons_zero]
      go_simp
      refine hK.out _ _ ((World.cell?_of_block (a := ⟨x, 1, none⟩) (Below.heap_setCell _ _ _ _ hxg)).trans s5) (fun hHeld => ?_)
      clear hK K
      try simp only [Act.put, List.setIfInBounds_toArray, List.set_cons_zero, List.set_cons_succ, List.getElem_toArray, List.getElem_cons_succ, List.getElem_cons_zero]
      refine wpAnyH_done (by kernel_rfl) ?_ _
      go_wp2
      go_ret
      exact ⟨_, by rw [(Prod.mk.inj HQ.out).1]; rfl, by rw [(Prod.mk.inj HQ.out).2]; exact HFIN.out.1, HFIN.out.2⟩
  · rw [hi]
    cases sb
    · have HQ := Lib.hid (HER.out.symm.trans (by unfold sync5; rw [if_neg (by rw [HSB.out]; decide)]))
      go_wp2
      go_ret
      refine ⟨S, by rw [(Prod.mk.inj HQ.out).1]; rfl, by rw [(Prod.mk.inj HQ.out).2]; exact HK1.out, HM1.out⟩
    · have HQ := Lib.hid (HER.out.symm.trans (by unfold sync5; rw [if_pos HSB.out, if_neg (by rw [hf]; decide)]))
      go_wp2
      go_ret
      refine ⟨S, by rw [(Prod.mk.inj HQ.out).1]; rfl, by rw [(Prod.mk.inj HQ.out).2]; exact HK1.out, HM1.out⟩
set_option maxHeartbeats 8000000 in
theorem append5_any (x : Nat) (S : List Nat) (r : D5) (s dt : ByteArray) (hdt : dt.size ≤ 1000000000) (w : World) (h : D5At x S r w) (hok : r.Ok) :
    Calls Tryz.prog 30 #[.pointer (some ⟨x, 0, none⟩), .string s, .string dt] w fun e w' => ∃ S', e = .returned (.int .i64 (append5 r s dt).1) ∧ D5At x S' (append5 r s dt).2 w' ∧ Mv S S' w w' := by
  have HOP := Lib.hid (op5_any x S r w h hok.ops0 hok.ops1 hok.fuse0 hok.fuse1)
  have HOK := Lib.hid hok
  obtain ⟨E, hE⟩ : ∃ E, (append5 r s dt).1 = E := ⟨_, rfl⟩
  obtain ⟨R', hR⟩ : ∃ R', (append5 r s dt).2 = R' := ⟨_, rfl⟩
  rw [hE, hR]
  have HER : Hid ((append5 r s dt) = (E, R')) := by show _ = _; rw [← hE, ← hR]
  obtain ⟨sb, hsb⟩ : ∃ sb, stays5 r = sb := ⟨_, rfl⟩
  rw [hsb] at HOP
  have HSB := Lib.hid hsb
  obtain ⟨on, hon⟩ : ∃ on, r.on = on := ⟨_, rfl⟩
  rw [hon] at HOP
  have HON := Lib.hid hon
  clear hE hR hsb h hok hon
  go_enter Tryz.func30, Tryz.ntmps30
  go_wp2_with fail
  refine HOP.out.mono ?_
  rintro e w1 ⟨rfl, hk1, hm1⟩
  have HK1 := Lib.hid hk1
  have HM1 := Lib.hid (mv_own hk1 hm1)
  clear hk1 hm1 HOP
  cases on
  · have HOO : Hid (op5 r = r) := op5_off HON.out
    have HQ := Lib.hid (HER.out.symm.trans (by unfold append5; rw [if_neg (by rw [HON.out]; decide)]))
    go_wp2
    go_ret
    refine ⟨S, by rw [(Prod.mk.inj HQ.out).1]; rfl, by rw [(Prod.mk.inj HQ.out).2]; exact (by have h := HK1.out; rw [HOO.out] at h; exact h), HM1.out⟩
  · have FD := find5_any x S (op5 r) s w1 HK1.out (by rw [op5_l]; have := HOK.out.few; omega)
    rw [op5_l] at FD
    have HFD := Lib.hid FD
    clear FD
    go_wp2_with fail
    refine HFD.out.mono ?_
    rintro e w2 ⟨rfl, hw2⟩
    obtain rfl : w1 = w2 := hw2
    clear HFD
    rcases idx5_cases r.l s with ⟨k, y, hi, hk, hy, hb, hf⟩ | ⟨hi, hf⟩
    · rw [hi]
      have b1 : (0 : Int) ≤ (k : Int) := by omega
      obtain ⟨A, c, hcell, hcap, hrow⟩ := HK1.out.row
      rw [op5_l] at hcell hcap hrow
      obtain ⟨n, hn⟩ : ∃ n, r.l.length = n := ⟨_, rfl⟩
      rw [hn] at hcell hcap
      have hfew : n ≤ 50000 := by rw [← hn]; exact HOK.out.few
      have htot := HOK.out.tot
      have HROW := Lib.hid hrow; have HN := Lib.hid hn
      clear hrow hn
      obtain ⟨T, hT⟩ : ∃ T, tot5 r.l = T := ⟨_, rfl⟩
      rw [hT] at htot
      have HT := Lib.hid hT
      clear hT
      go_upto_block 0 with (fail)
      go_cut [11, 12] (fun al _ wx => al = .int .i64 ((dt.size : Int) + (T : Int)) ∧ w1 = wx)
      case first =>
        go_wp2
        go_loopw [11, 12] (fun al i wr => ∃ q : Nat, q ≤ n ∧ i = .int .i64 q ∧ al = .int .i64 ((dt.size : Int) + (tot5 (r.l.take q) : Int)) ∧ wr = w1) (fun _ i _ => n - (intOf i).toNat)
        case atStart => exact ⟨0, Nat.zero_le _, rfl, by show Value.int _ _ = Value.int _ _; (congr 1); (try simp [tot5]), rfl⟩
        case round =>
          obtain ⟨q, hq, rfl, rfl, rfl⟩ := hrel
          have a1 : (0 : Int) ≤ (q : Int) := by omega
          by_cases hlt : q < n
          · obtain ⟨ad, z, rfl, hab, hzk, hzm, hc⟩ := HROW.out.at_ (show q < r.l.length by rw [HN.out]; exact hlt)
            have z1 : wr.cell? ⟨(ad.add (q * 3)).block, (ad.add (q * 3)).off + 1, none⟩ = some (.string z.data) := hc 1 _ rfl
            have a2 : (q : Int) < (n : Int) := by omega
            have t1 := tot_take_succ hzk
            have t2 := tot_take_le r.l (q + 1)
            rw [HT.out] at t2
            obtain ⟨u, hu⟩ : ∃ u, tot5 (r.l.take q) = u := ⟨_, rfl⟩
            rw [hu] at t1 ⊢
            have HTS := Lib.hid t1
            have t3 : u + z.data.size ≤ T := by omega
            clear hc hzk hzm t1 t2 hu
            go_wp2
            go_roundw
            case rel => exact ⟨q + 1, hlt, by go_num, by rw [HTS.out]; go_num, trivial⟩
            case measure => simp [intOf]; omega
          · obtain rfl : q = n := by omega
            have ht : tot5 (r.l.take q) = T := by rw [List.take_of_length_le (by rw [HN.out]; exact Nat.le_refl _)]; exact HT.out
            rw [ht]
            clear ht
            go_wp2
            go_meet
            exact ⟨rfl, rfl⟩
      case rest =>
      obtain ⟨rfl, rfl⟩ := hcut
      by_cases hbg : 400000 < T + dt.size
      · have hbig : ((dt.size : Int) + (T : Int)) > 400000 := by omega
        have hbd : decide (((dt.size : Int) + (T : Int)) > 400000) = true := decide_eq_true hbig
        have HAP : Hid (appW5 r s dt = 10) := by show _ = _; unfold appW5; rw [if_pos (by rw [hf]; rfl), if_pos (by rw [HT.out]; omega)]
        cases sb
        · have HQ := Lib.hid (HER.out.symm.trans (show append5 r s dt = (14, op5 r) by unfold append5; rw [if_pos HON.out]; rw [HAP.out]; rw [if_neg (by rw [HSB.out]; decide), if_neg (by decide)]))
          go_wp2
          go_ret
          exact ⟨S, by rw [(Prod.mk.inj HQ.out).1]; rfl, by rw [(Prod.mk.inj HQ.out).2]; exact HK1.out, HM1.out⟩
        · have HQ := Lib.hid (HER.out.symm.trans (show append5 r s dt = (10, op5 r) by unfold append5; rw [if_pos HON.out]; rw [HAP.out]; rw [if_pos HSB.out, if_neg (by decide)]))
          go_wp2
          go_ret
          exact ⟨S, by rw [(Prod.mk.inj HQ.out).1]; rfl, by rw [(Prod.mk.inj HQ.out).2]; exact HK1.out, HM1.out⟩
      · have hkn : k < n := by rw [← HN.out]; exact (List.getElem?_eq_some_iff.1 hk).1
        have HYK := Lib.hid hk
        obtain ⟨ad, y', rfl, hab, hyk, hym, hc⟩ := HROW.out.at_ (show k < r.l.length by rw [HN.out]; exact hkn)
        clear hyk hym hc y'
        have b2 : (k : Int) < (n : Int) := by omega
        have hyt : y.data.size ≤ T := by rw [← HT.out]; exact mem_tot (List.mem_of_getElem? hk)
        have hcat : ¬ 9223372036854775807 < y.data.size + dt.size := by omega
        have HUP := Lib.hid (updF_at (f := addF dt) hb hk hy).1
        have HAP : Hid (appW5 r s dt = 0) := by show _ = _; unfold appW5; rw [if_pos (by rw [hf]; rfl), if_neg (by rw [HT.out]; omega)]
        have hbd : decide (((dt.size : Int) + (T : Int)) > 400000) = false := decide_eq_false (by omega)
        clear hi hk hy hb hf
        obtain ⟨i0, z0, hinf, hz0, hz1, hz2, hz3⟩ := info_all infoF
        have hxl1 : x < w1.heap.size := HK1.out.lt
        have f10 := HK1.out.frozen 1
        go_wp2_with (at_builtin; go_loud (refine wpList_append_any _ rfl _ _ 89 rfl w1.heap.size 121 i0 z0 3 40 Tryz.underlying89 hinf hz0 hz1 hz2 hz3 (by decide) _ _ _ rfl (World.ownsRow_nil w1 w1.heap.size _ 3) w1.heap.size (some ad) n c (cellsOf r.l) rfl ?d1 ?d2 ?d3 ?d4 ?d5 ?_))
        case d1 => have h := HROW.out.reads (fun z _ => csF z); rw [HN.out] at h; exact h
        case d2 => exact cellsOf_one r.l oneF5
        case d3 => unfold maxLen; omega
        case d4 => omega
        case d5 => exact Nat.le_refl _
        intro v4 w4 hown4 hgrow4 _
        have hb4 : Below w1.heap.size w1 w4 := ⟨hgrow4.os, hgrow4.tape, hgrow4.output, hgrow4.size, fun k hk => hgrow4.block k hk (by simp [Value.ownBlock])⟩
        have hown4' : w4.ownsRow w1.heap.size 121 3 v4 n (cellsOf r.l) := by simpa using hown4
        clear hown4 hgrow4
        obtain ⟨g4, c4, rfl, hc4, hg4⟩ := hown4'.form (by omega)
        have hge : w1.heap.size ≤ g4 := (hown4'.lt g4 rfl).1
        have hxg : x ≠ g4 := by omega
        have e4 : w4.cell? ⟨x, 1, none⟩ = some (.slice (some ad) n c) := (hb4.cell (p := ⟨x, 1, none⟩) hxl1).trans hcell
        have HK4 := Lib.hid (HK1.out.below hb4)
        have f4 : w4.frozen? ⟨x, 1, none⟩ = false := HK4.out.frozen 1
        obtain ⟨W5, HW5⟩ : ∃ W, Hid (w4.setCell ⟨x, 1, none⟩ (.slice (some ⟨g4, 0, none⟩) n c4) = W) := ⟨_, rfl⟩
        have hown5 : W5.ownsRow w1.heap.size 121 3 (.slice (some ⟨g4, 0, none⟩) n c4) n (cellsOf r.l) := by
          rw [← HW5.out]
          exact own_keep' hown4' (fun k hk => Below.heap_setCell _ _ _ _ (fun e => hxg (by injection hk with hk; exact (e.symm.trans hk.symm))))
        have hx5 : W5.heap[x]? = some (.cells #[.bool (op5 r).on, .slice (some ⟨g4, 0, none⟩) n c4, .int .i64 (op5 r).ops, .int .i64 (op5 r).fuse] 91 (0, 0)) := by
          rw [← HW5.out]
          obtain ⟨v9, _, h9, _⟩ := HK4.out
          exact Blk.set_ (show Blk w4 x 91 _ from h9) 1 _
        have hm5 : Mv S [x, g4] w1 W5 := by
          rw [← HW5.out]
          exact mv_row (x := x) HK1.out.own hb4 (fun q hq => (hown4'.lt q hq).1) 1
        have hcd : (cellsOf r.l)[k * 3 + 1]? = some (.string y.data) := cells_at (N := 3) (fun z _ => csF z) HYK.out rfl
        have hcf : (cellsOf r.l)[k * 3 + 1]? = some (.string y.data) := cells_at (N := 3) (fun z _ => csF z) HYK.out rfl
        have s5 : W5.drew.cell? ⟨x, 1, none⟩ = some (.slice (some ⟨g4, 0, none⟩) n c4) := by show W5.cell? _ = _; rw [Lib.cell_of_heap hx5]; rfl
        have e5 : W5.drew.cell? ⟨g4, k * 3 + 1, none⟩ = some (.string y.data) := by
          have h := hown5.cells (g := g4) rfl _ _ hcd
          rw [Addr.add_lit, Nat.zero_add] at h
          exact h
        have e5f : W5.drew.cell? ⟨g4, k * 3 + 1, none⟩ = some (.string y.data) := by
          have h := hown5.cells (g := g4) rfl _ _ hcf
          rw [Addr.add_lit, Nat.zero_add] at h
          exact h
        have f5 : W5.drew.frozen? ⟨g4, k * 3 + 1, none⟩ = false := hown5.frozenAt (k * 3 + 1)
        have HFIN : Hid (D5At x [x, g4] ((op5 r).with (r.l.set k (addF dt y))) (W5.drew.setCell ⟨g4, k * 3 + 1, none⟩ (.string (y.data ++ dt))) ∧ Mv S [x, g4] w (W5.drew.setCell ⟨g4, k * 3 + 1, none⟩ (.string (y.data ++ dt)))) := by
          refine ⟨?_, ?_⟩
          · have h := D5At.stored (x := x) (r := (op5 r).with r.l) (w := W5.drew) (l' := r.l.set k (addF dt y)) (j := k * 3 + 1) (v := .string (y.data ++ dt)) hown5 hx5 hxg (cells_upd (N := 3) (y' := (addF dt y)) (fun z _ => csF z) HYK.out rfl (by decide)) (by rw [List.length_set]; exact HN.out)
            exact h
          · refine HM1.out.trans (hm5.trans ?_)
            exact (((Mv.refl [x, g4] W5).drewN 1).set_ (by simp) _ _)
        clear hown4' hown5 hx5 hm5 hcd hcf hb4
        go_upto_region 17 with (fail)
        rw [HW5.out]
        clear e4 f4
        refine wp_region_held_drew (S := fun Y => Y.cell? ⟨x, 1, none⟩ = some (.slice (some ⟨g4, 0, none⟩) n c4)) (by kernel_rfl) s5 (fun hHeld => ?_)
        refine wpAnyH_take (i := 0) (v := ?_) rfl (by kernel_rfl) (by kernel_rfl) (by kernel_rfl) (fun _ _ _ h => h) (Or.inl ⟨by rfl, ?_⟩) (by assumption) ?_
        rotate_left
        · intro X hSw; (try dsimp only at hSw); (try simp only [List.getElem_toArray, List.getElem_cons_succ, List.getElem_cons_zero]); first | (go_simp; done) | (go_simp; with_reducible rfl)
        try simp only [Act.put, List.setIfInBounds_toArray, List.set_cons_zero, List.set_cons_succ, List.getElem_toArray, List.getElem_cons_succ, List.getElem_cons_zero]
        refine wpAnyH_take (i := 1) (v := ?_) rfl (by kernel_rfl) (by kernel_rfl) (by kernel_rfl) (fun _ _ _ h => h) (Or.inl ⟨by rfl, ?_⟩) (by assumption) ?_
        rotate_left
        · intro X hSw; (try dsimp only at hSw); (try simp only [List.getElem_toArray, List.getElem_cons_succ, List.getElem_cons_zero]); first | (go_simp; done) | (go_simp; with_reducible rfl)
        try simp only [Act.put, List.setIfInBounds_toArray, List.set_cons_zero, List.set_cons_succ, List.getElem_toArray, List.getElem_cons_succ, List.getElem_cons_zero]
        refine wpAnyH_take (i := 2) (v := ?_) rfl (by kernel_rfl) (by kernel_rfl) (by kernel_rfl) (fun _ _ _ h => h) (Or.inl ⟨by rfl, ?_⟩) (by assumption) ?_
        rotate_left
        · intro X hSw; (try dsimp only at hSw); (try simp only [List.getElem_toArray, List.getElem_cons_succ, List.getElem_cons_zero]); first | (go_simp; done) | (go_simp; with_reducible rfl)
        try simp only [Act.put, List.setIfInBounds_toArray, List.set_cons_zero, List.set_cons_succ, List.getElem_toArray, List.getElem_cons_succ, List.getElem_cons_zero]
        refine wpAnyH_take (i := 3) (v := ?_) rfl (by kernel_rfl) (by kernel_rfl) (by kernel_rfl) (fun _ _ _ h => h) (Or.inl ⟨by rfl, ?_⟩) (by assumption) ?_
        rotate_left
        · intro X hSw; (try dsimp only at hSw); (try simp only [List.getElem_toArray, List.getElem_cons_succ, List.getElem_cons_zero]); first | (go_simp; done) | (go_simp; with_reducible rfl)
        try simp only [Act.put, List.setIfInBounds_toArray, List.set_cons_zero, List.set_cons_succ, List.getElem_toArray, List.getElem_cons_succ, List.getElem_cons_zero]
        refine wpAnyH_take (i := 4) (v := ?_) rfl (by kernel_rfl) (by kernel_rfl) (by kernel_rfl) (fun _ _ _ h => h) (Or.inl ⟨by rfl, ?_⟩) (by assumption) ?_
        rotate_left
        · intro X hSw; (try dsimp only at hSw); (try simp only [List.getElem_toArray, List.getElem_cons_succ, List.getElem_cons_zero]); first | (go_simp; done) | (go_simp; with_reducible rfl)
        try simp only [Act.put, List.setIfInBounds_toArray, List.set_cons_zero, List.set_cons_succ, List.getElem_toArray, List.getElem_cons_succ, List.getElem_cons_zero]
        refine wpAnyH_take (i := 5) (v := ?_) rfl (by kernel_rfl) (by kernel_rfl) (by kernel_rfl) (fun _ _ _ h => h) (Or.inl ⟨by rfl, ?_⟩) (by assumption) ?_
        rotate_left
        · intro X hSw; (try dsimp only at hSw); (try simp only [List.getElem_toArray, List.getElem_cons_succ, List.getElem_cons_zero]); first | (go_simp; done) | (go_simp; with_reducible rfl)
        try simp only [Act.put, List.setIfInBounds_toArray, List.set_cons_zero, List.set_cons_succ, List.getElem_toArray, List.getElem_cons_succ, List.getElem_cons_zero]
        refine wpAnyH_take (i := 6) (v := ?_) rfl (by kernel_rfl) (by kernel_rfl) (by kernel_rfl) (fun _ _ _ h => h) (Or.inl ⟨by rfl, ?_⟩) (by assumption) ?_
        rotate_left
        · intro X hSw; (try dsimp only at hSw); (try simp only [List.getElem_toArray, List.getElem_cons_succ, List.getElem_cons_zero]); first | (go_simp; done) | (go_simp; with_reducible rfl)
        try simp only [Act.put, List.setIfInBounds_toArray, List.set_cons_zero, List.set_cons_succ, List.getElem_toArray, List.getElem_cons_succ, List.getElem_cons_zero]
        refine wpAnyH_take (i := 7) (v := ?_) rfl (by kernel_rfl) (by kernel_rfl) (by kernel_rfl) (fun _ _ _ h => h) (Or.inl ⟨by rfl, ?_⟩) (by assumption) ?_
        rotate_left
        · intro X hSw; (try dsimp only at hSw); (try simp only [List.getElem_toArray, List.getElem_cons_succ, List.getElem_cons_zero]); first | (go_simp; done) | (go_simp; with_reducible rfl)
        try simp only [Act.put, List.setIfInBounds_toArray, List.set_cons_zero, List.set_cons_succ, List.getElem_toArray, List.getElem_cons_succ, List.getElem_cons_zero]
        refine wpAnyH_take (i := 8) (v := ?_) rfl (by kernel_rfl) (by kernel_rfl) (by kernel_rfl) (fun _ _ _ h => h) (Or.inl ⟨by rfl, ?_⟩) (by assumption) ?_
        rotate_left
        · intro X hSw; (try dsimp only at hSw); (try simp only [List.getElem_toArray, List.getElem_cons_succ, List.getElem_cons_zero]); first | (go_simp; done) | (go_simp; with_reducible rfl)
        try simp only [Act.put, List.setIfInBounds_toArray, List.set_cons_zero, List.set_cons_succ, List.getElem_toArray, List.getElem_cons_succ, List.getElem_cons_zero]
        refine wpAnyH_take (i := 9) (v := ?_) rfl (by kernel_rfl) (by kernel_rfl) (by kernel_rfl) (fun _ _ _ h => h) (Or.inl ⟨by rfl, ?_⟩) (by assumption) ?_
        rotate_left
        · intro X hSw; (try dsimp only at hSw); (try simp only [List.getElem_toArray, List.getElem_cons_succ, List.getElem_cons_zero]); first | (go_simp; done) | (go_simp; with_reducible rfl)
        try simp only [Act.put, List.setIfInBounds_toArray, List.set_cons_zero, List.set_cons_succ, List.getElem_toArray, List.getElem_cons_succ, List.getElem_cons_zero]
        refine wpAnyH_take (i := 10) (v := ?_) rfl (by kernel_rfl) (by kernel_rfl) (by kernel_rfl) (fun _ _ _ h => h) (Or.inl ⟨by rfl, ?_⟩) (by assumption) ?_
        rotate_left
        · intro X hSw; (try dsimp only at hSw); (try simp only [List.getElem_toArray, List.getElem_cons_succ, List.getElem_cons_zero]); first | (go_simp; done) | (go_simp; with_reducible rfl)
        try simp only [Act.put, List.setIfInBounds_toArray, List.set_cons_zero, List.set_cons_succ, List.getElem_toArray, List.getElem_cons_succ, List.getElem_cons_zero]
        refine wpAnyH_take (i := 11) (v := ?_) rfl (by kernel_rfl) (by kernel_rfl) (by kernel_rfl) (fun _ _ _ h => h) (Or.inl ⟨by rfl, ?_⟩) (by assumption) ?_
        rotate_left
        · intro X hSw; (try dsimp only at hSw); (try simp only [List.getElem_toArray, List.getElem_cons_succ, List.getElem_cons_zero]); first | (go_simp; done) | (go_simp; with_reducible rfl)
        try simp only [Act.put, List.setIfInBounds_toArray, List.set_cons_zero, List.set_cons_succ, List.getElem_toArray, List.getElem_cons_succ, List.getElem_cons_zero]
        refine wpAnyH_take (i := 13) (v := ?_) rfl (by kernel_rfl) (by kernel_rfl) (by kernel_rfl) (fun _ _ _ h => h) (Or.inl ⟨by rfl, ?_⟩) (by assumption) ?_
        rotate_left
        · intro X hSw; (try dsimp only at hSw); (try simp only [List.getElem_toArray, List.getElem_cons_succ, List.getElem_cons_zero]); first | (go_simp; done) | (go_simp; with_reducible rfl)
        try simp only [Act.put, List.setIfInBounds_toArray, List.set_cons_zero, List.set_cons_succ, List.getElem_toArray, List.getElem_cons_succ, List.getElem_cons_zero]
        refine wpAnyH_ready (rs := [12]) (by kernel_rfl) (by simp) (AllReadyH.cons rfl (fun K hK => ?_) AllReadyH.nil)
        try simp only [List.getElem_toArray, List.getElem_cons_succ, List.getElem_cons_zero]
        go_simp
        refine hK.out _ _ s5 (fun hHeld => ?_)
        clear hK K
        try simp only [Act.put, List.setIfInBounds_toArray, List.set_cons_zero, List.set_cons_succ, List.getElem_toArray, List.getElem_cons_succ, List.getElem_cons_zero]
        refine wpAnyH_take (i := 14) (v := ?_) rfl (by kernel_rfl) (by kernel_rfl) (by kernel_rfl) (fun _ _ _ h => h) (Or.inl ⟨by rfl, ?_⟩) (by assumption) ?_
        rotate_left
        · intro X hSw; (try dsimp only at hSw); (try simp only [List.getElem_toArray, List.getElem_cons_succ, List.getElem_cons_zero]); first | (go_simp; done) | (go_simp; with_reducible rfl)
        try simp only [Act.put, List.setIfInBounds_toArray, List.set_cons_zero, List.set_cons_succ, List.getElem_toArray, List.getElem_cons_succ, List.getElem_cons_zero]
        refine wpAnyH_take (i := 15) (v := ?_) rfl (by kernel_rfl) (by kernel_rfl) (by kernel_rfl) (fun _ _ _ h => h) (Or.inl ⟨by rfl, ?_⟩) (by assumption) ?_
        rotate_left
        · intro X hSw; (try dsimp only at hSw); (try simp only [List.getElem_toArray, List.getElem_cons_succ, List.getElem_cons_zero]); first | (go_simp; done) | (go_simp; with_reducible rfl)
        try simp only [Act.put, List.setIfInBounds_toArray, List.set_cons_zero, List.set_cons_succ, List.getElem_toArray, List.getElem_cons_succ, List.getElem_cons_zero]
        refine wpAnyH_take (i := 16) (v := ?_) rfl (by kernel_rfl) (by kernel_rfl) (by kernel_rfl) (fun _ _ _ h => h) (Or.inl ⟨by rfl, ?_⟩) (by assumption) ?_
        rotate_left
        · intro X hSw; (try dsimp only at hSw); (try simp only [List.getElem_toArray, List.getElem_cons_succ, List.getElem_cons_zero]); first | (go_simp; done) | (go_simp; with_reducible rfl)
        try simp only [Act.put, List.setIfInBounds_toArray, List.set_cons_zero, List.set_cons_succ, List.getElem_toArray, List.getElem_cons_succ, List.getElem_cons_zero]
        refine wpAnyH_ready (rs := [17]) (by kernel_rfl) (by simp) (AllReadyH.cons rfl (fun K hK => ?_) AllReadyH.nil)
        try simp only [List.getElem_toArray, List.getElem_cons_succ, List.getElem_cons_zero]
        go_simp
        refine hK.out _ _ ((World.cell?_of_block (a := ⟨x, 1, none⟩) (Below.heap_setCell _ _ _ _ hxg)).trans s5) (fun hHeld => ?_)
        clear hK K
        try simp only [Act.put, List.setIfInBounds_toArray, List.set_cons_zero, List.set_cons_succ, List.getElem_toArray, List.getElem_cons_succ, List.getElem_cons_zero]
        refine wpAnyH_done (by kernel_rfl) ?_ _
        cases sb
        · have HQ := Lib.hid (HER.out.symm.trans (show append5 r s dt = (14, (op5 r).with (r.l.set k (addF dt y))) by unfold append5; rw [if_pos HON.out]; rw [HAP.out]; rw [if_neg (by rw [HSB.out]; decide), if_pos rfl, HUP.out]))
          go_wp2
          go_ret
          exact ⟨_, by rw [(Prod.mk.inj HQ.out).1]; rfl, by rw [(Prod.mk.inj HQ.out).2]; exact HFIN.out.1, HFIN.out.2⟩
        · have HQ := Lib.hid (HER.out.symm.trans (show append5 r s dt = (0, (op5 r).with (r.l.set k (addF dt y))) by unfold append5; rw [if_pos HON.out]; rw [HAP.out]; rw [if_pos HSB.out, if_pos rfl, HUP.out]))
          go_wp2
          go_ret
          exact ⟨_, by rw [(Prod.mk.inj HQ.out).1]; rfl, by rw [(Prod.mk.inj HQ.out).2]; exact HFIN.out.1, HFIN.out.2⟩
    · rw [hi]
      obtain ⟨A, c, hcell, hcap, hrow⟩ := HK1.out.row
      rw [op5_l] at hcell hcap hrow
      obtain ⟨n, hn⟩ : ∃ n, r.l.length = n := ⟨_, rfl⟩
      rw [hn] at hcell hcap
      have hfew : n ≤ 50000 := by rw [← hn]; exact HOK.out.few
      have htot := HOK.out.tot
      have HROW := Lib.hid hrow; have HN := Lib.hid hn
      clear hrow hn
      obtain ⟨T, hT⟩ : ∃ T, tot5 r.l = T := ⟨_, rfl⟩
      rw [hT] at htot
      have HT := Lib.hid hT
      clear hT
      go_upto_block 0 with (fail)
      go_cut [11, 12] (fun al _ wx => al = .int .i64 ((dt.size : Int) + (T : Int)) ∧ w1 = wx)
      case first =>
        go_wp2
        go_loopw [11, 12] (fun al i wr => ∃ q : Nat, q ≤ n ∧ i = .int .i64 q ∧ al = .int .i64 ((dt.size : Int) + (tot5 (r.l.take q) : Int)) ∧ wr = w1) (fun _ i _ => n - (intOf i).toNat)
        case atStart => exact ⟨0, Nat.zero_le _, rfl, by show Value.int _ _ = Value.int _ _; (congr 1); (try simp [tot5]), rfl⟩
        case round =>
          obtain ⟨q, hq, rfl, rfl, rfl⟩ := hrel
          have a1 : (0 : Int) ≤ (q : Int) := by omega
          by_cases hlt : q < n
          · obtain ⟨ad, z, rfl, hab, hzk, hzm, hc⟩ := HROW.out.at_ (show q < r.l.length by rw [HN.out]; exact hlt)
            have z1 : wr.cell? ⟨(ad.add (q * 3)).block, (ad.add (q * 3)).off + 1, none⟩ = some (.string z.data) := hc 1 _ rfl
            have a2 : (q : Int) < (n : Int) := by omega
            have t1 := tot_take_succ hzk
            have t2 := tot_take_le r.l (q + 1)
            rw [HT.out] at t2
            obtain ⟨u, hu⟩ : ∃ u, tot5 (r.l.take q) = u := ⟨_, rfl⟩
            rw [hu] at t1 ⊢
            have HTS := Lib.hid t1
            have t3 : u + z.data.size ≤ T := by omega
            clear hc hzk hzm t1 t2 hu
            go_wp2
            go_roundw
            case rel => exact ⟨q + 1, hlt, by go_num, by rw [HTS.out]; go_num, trivial⟩
            case measure => simp [intOf]; omega
          · obtain rfl : q = n := by omega
            have ht : tot5 (r.l.take q) = T := by rw [List.take_of_length_le (by rw [HN.out]; exact Nat.le_refl _)]; exact HT.out
            rw [ht]
            clear ht
            go_wp2
            go_meet
            exact ⟨rfl, rfl⟩
      case rest =>
      obtain ⟨rfl, rfl⟩ := hcut
      have HAP : Hid (appW5 r s dt = 7) := by show _ = _; unfold appW5; rw [if_neg (by rw [hf]; decide)]
      cases sb
      · have HQ := Lib.hid (HER.out.symm.trans (show append5 r s dt = (14, op5 r) by unfold append5; rw [if_pos HON.out]; rw [HAP.out]; rw [if_neg (by rw [HSB.out]; decide), if_neg (by decide)]))
        go_wp2
        go_ret
        exact ⟨S, by rw [(Prod.mk.inj HQ.out).1]; rfl, by rw [(Prod.mk.inj HQ.out).2]; exact HK1.out, HM1.out⟩
      · have HQ := Lib.hid (HER.out.symm.trans (show append5 r s dt = (7, op5 r) by unfold append5; rw [if_pos HON.out]; rw [HAP.out]; rw [if_pos HSB.out, if_neg (by decide)]))
        go_wp2
        go_ret
        exact ⟨S, by rw [(Prod.mk.inj HQ.out).1]; rfl, by rw [(Prod.mk.inj HQ.out).2]; exact HK1.out, HM1.out⟩
end Go.Proofs.YtfmbadinfhpihaaGreat
namespace Go.Proofs.YtfmbadinfhpihaaGreat
open Go.RowKit Go.Maps
attribute [local go_sem ↓] Go.wp_at_zero Go.wp_at_succ
set_option maxRecDepth 100000

set_option maxHeartbeats 8000000 in
theorem crash5_any (x : Nat) (S : List Nat) (r : D5) (keep : List Int) (A : Option Addr) (cp : Nat) (w : World) (h : D5At x S r w) (hok : r.Ok) (hr : Reads w w.heap.size 1 A keep.length (ints keep)) (hA : 0 < keep.length → ∀ ad, A = some ad → ad.block ∉ S)
    (hv : ∀ v ∈ keep, -9223372036854775808 ≤ v ∧ v ≤ 9223372036854775807) (hl : keep.length ≤ 9223372036854775807) :
    Calls Tryz.prog 33 #[.pointer (some ⟨x, 0, none⟩), .slice A keep.length cp] w fun e w' => ∃ S', e = .returned (.tuple #[]) ∧ D5At x S' (crash5 r keep) w' ∧ Mv S S' w w' := by
  obtain ⟨i0, z0, hinf, hz0, hz1, hz2, hz3⟩ := info_all infoF
  have c0 := h.cell0; have c3 := h.cell3
  have f0 := h.frozen 0; have f3 := h.frozen 3
  have hxl := h.lt
  have HXS := Lib.hid h.own
  obtain ⟨A1, c1, hcell, hcap, hrow⟩ := h.row
  obtain ⟨n, hn⟩ : ∃ n, keep.length = n := ⟨_, rfl⟩
  rw [hn] at hr hA hl ⊢
  obtain ⟨P, hP⟩ : ∃ P, r.l = P := ⟨_, rfl⟩
  have hfew := hok.few; have htot := hok.tot
  have hnm := hok.nm; have hsf := hok.sf
  rw [hP] at hcell hcap hrow hfew htot hnm hsf
  obtain ⟨m, hm⟩ : ∃ m, P.length = m := ⟨_, rfl⟩
  rw [hm] at hcell hcap hfew
  obtain ⟨w1, HW1⟩ : ∃ w1, Hid ((w.setCell ⟨x, 0, none⟩ (.bool false)).setCell ⟨x, 3, none⟩ (.int .i64 (-1)) = w1) := ⟨_, rfl⟩
  have HK1 : Hid (D5At x S ⟨false, P, r.ops, -1⟩ w1) := by show D5At _ _ _ _; rw [← HW1.out, ← hP]; exact (h.set0 false).set3 (-1)
  have HM1 : Hid (Mv S S w w1) := by show Mv _ _ _ _; rw [← HW1.out]; exact mv_own h ((mv_cell (c := x) (w := w) 0 (.bool false)).trans (mv_cell 3 (.int .i64 (-1))))
  have HR1 : Hid (Reads w1 w1.heap.size 1 A n (ints keep)) := ⟨hr.1, fun h0 => by
    obtain ⟨ad, e, hb, hc⟩ := hr.2 h0
    refine ⟨ad, e, Nat.lt_of_lt_of_le hb HM1.out.size, fun j u hu => ?_⟩
    rw [World.cell?_of_block (w := w) (w' := w1) (by rw [block_of_add]; exact HM1.out.block _ hb (hA h0 ad e))]
    exact hc j u hu⟩
  have hxl1 : x < w1.heap.size := HK1.out.lt
  have HCELL : Hid (w1.cell? ⟨x, 1, none⟩ = some (.slice A1 m c1)) := by
    obtain ⟨A2, c2, g1, _, _⟩ := HK1.out.row
    show _ = _
    obtain ⟨v, _, h2, _⟩ := h
    have e1 : w.cell? ⟨x, 1, none⟩ = some v := by rw [Lib.cell_of_heap h2]; rfl
    rw [hcell] at e1
    injection e1 with e1
    rw [← HW1.out, Lib.cell_of_heap (Blk.set_ (Blk.set_ (show Blk w x 91 _ from h2) 0 _) 3 _), e1]
    rfl
  obtain ⟨A3, c4, HC9, _, hrow1⟩ := HK1.out.row
  have hAA : A3 = A1 := by
    have h9 := HCELL.out
    rw [HC9] at h9
    injection h9 with h9
    injection h9
  subst hAA
  have HROW : Hid (RowsAt w1 w1.heap.size A3 3 P) := hrow1
  obtain ⟨L, hL⟩ : ∃ L, P.mapIdx (cut5 keep) = L := ⟨_, rfl⟩
  have HQ : Hid (crash5 r keep = ⟨false, L, r.ops, -1⟩) := by show _ = _; rw [← hL, ← hP]; rfl
  have HLL : Hid (L.length = m) := by show _ = _; rw [← hL, List.length_mapIdx]; exact hm
  have HLG : Hid (∀ k y, P[k]? = some y → L[k]? = some (cut5 keep k y)) := fun k y hk => by rw [← hL, List.getElem?_mapIdx, hk]; rfl
  have HM := Lib.hid hm; have HN := Lib.hid hn; have HV := Lib.hid hv; have HSF := Lib.hid hsf; have HTT := Lib.hid htot
  clear hr hA hn hP hm hv hsf htot hnm h hok hrow hrow1 HC9 hL hcell
  rw [HQ.out]
  go_enter Tryz.func33, Tryz.ntmps33
  go_upto_block 0 with (fail)
  rw [HW1.out]
  clear c0 c3 f0 f3
  go_wp2
  go_loopw [4, 5] (fun v i wr => ∃ k : Nat, k ≤ m ∧ i = .int .i64 k ∧ Hid (wr.ownsRow w1.heap.size 121 3 v k (cellsOf (L.take k))) ∧ Hid (Below w1.heap.size w1 wr)) (fun _ i _ => m - (intOf i).toNat)
  case atStart => exact ⟨0, Nat.zero_le _, rfl, World.ownsRow_nil _ _ _ _, Below.refl _ _⟩
  case round =>
    obtain ⟨k, hk, rfl, HO, HB⟩ := hrel
    obtain ⟨A9, c9, rfl, hc9⟩ := own_form HO.out
    have b1 : (0 : Int) ≤ (k : Int) := by omega
    have hcx : wr.cell? ⟨x, 1, none⟩ = some (.slice A3 m c1) := (HB.out.cell (p := ⟨x, 1, none⟩) hxl1).trans HCELL.out
    have hbs := HB.out.size
    by_cases hlt : k < m
    · obtain ⟨ad, y, rfl, hab, hyk, hym, hc⟩ := HROW.out.at_ (show k < P.length by rw [HM.out]; exact hlt)
      have hc' : ∀ j v, (Kd.val y).cells[j]? = some v → wr.cell? ((ad.add (k * 3)).add j) = some v := fun j v hj => (HB.out.cell (by rw [block_of_add, block_of_add]; exact hab)).trans (hc j v hj)
      have e0 : wr.cell? (ad.add (k * 3)) = some (.string y.name) := by have h := hc' 0 _ rfl; rw [show (ad.add (k * 3)).add 0 = ad.add (k * 3) from by rw [add_of_add]; rfl] at h; exact h
      have e1 : wr.cell? ⟨(ad.add (k * 3)).block, (ad.add (k * 3)).off + 1, none⟩ = some (.string y.data) := hc' 1 _ rfl
      have e2 : wr.cell? ⟨(ad.add (k * 3)).block, (ad.add (k * 3)).off + 2, none⟩ = some (.int .i64 y.safe) := hc' 2 _ rfl
      obtain ⟨hy0, hy1⟩ := HSF.out y hym
      have hyl : y.data.size ≤ 1000000000 := Nat.le_trans (mem_tot hym) HTT.out
      have HST := Lib.hid (HLG.out k y hyk)
      have b2 : (k : Int) < (m : Int) := by omega
      have hq := kOf_range keep k (n := (y.data.size : Int) - y.safe + 1) (by omega)
      obtain ⟨q, hq9⟩ : ∃ q, kOf keep k ((y.data.size : Int) - y.safe + 1) = q := ⟨_, rfl⟩
      rw [hq9] at hq
      have i1 : 0 ≤ y.safe + q := by omega
      have i2 : y.safe + q ≤ (y.data.size : Int) := by omega
      obtain ⟨X, hx⟩ : ∃ X, y.data.extract 0 (y.safe + q).toNat = X := ⟨_, rfl⟩
      have HX := Lib.hid hx
      have hxz : X.size ≤ 1000000000 := by rw [← hx]; have := extract_le y.data (y.safe + q).toNat; omega
      have HCT : Hid (cut5 keep k y = ⟨y.name, X, (X.size : Nat)⟩) := by
        show _ = _
        have h9 : cutOf keep k (y.data, y.safe) = X := by rw [← hx, ← hq9]; rfl
        unfold cut5
        rw [h9]
      obtain ⟨W5, HW5⟩ : ∃ W, Hid (wr.alloc (.cells #[.string y.name, .string X, .int .i64 (X.size : Int)] 121) = W) := ⟨_, rfl⟩
      have HB5 : Hid (Below w1.heap.size w1 W5) := by show Below _ _ _; rw [← HW5.out]; exact HB.out.alloc hbs _
      have HO5 : Hid (W5.ownsRow w1.heap.size 121 3 (.slice A9 k c9) k (cellsOf (L.take k))) := by show World.ownsRow _ _ _ _ _ _ _; rw [← HW5.out]; exact HO.out.alloc _
      have hr1 : Reads (W5.alloc (.cells #[.string y.name, .string X, .int .i64 (X.size : Int)] 121)) (W5.heap.size + 1) 3 (some ⟨W5.heap.size, 0, none⟩) 1 [.string y.name, .string X, .int .i64 (X.size : Int)] := reads_newN W5 [.string y.name, .string X, .int .i64 (X.size : Int)] 121 #[.string y.name, .string X, .int .i64 (X.size : Int)] rfl rfl
      have hbs5 := HB5.out.size
      have HP5 : Hid (W5.heap[wr.heap.size]? = some (.cells #[.string y.name, .string X, .int .i64 (X.size : Int)] 121 (0, 0))) := by show _ = _; rw [← HW5.out]; exact heap_alloc_new _ _
      clear hc hc' hyk hym hx
      by_cases hkn : k < n
      · obtain ⟨ad2, v, rfl, hab2, hvk, hc2⟩ := int_at HR1.out hkn
        have hvr := HV.out v (List.mem_of_getElem? hvk)
        have hq8 : (if Int.tmod v ((y.data.size : Int) - y.safe + 1) < 0 then Int.tmod v ((y.data.size : Int) - y.safe + 1) + ((y.data.size : Int) - y.safe + 1) else Int.tmod v ((y.data.size : Int) - y.safe + 1)) = q := by
          rw [← hq9]
          unfold kOf
          rw [hvk]
        have hc3 : (wr.alloc (.cells #[.string y.name, .string y.data, .int .i64 y.safe] 121)).cell? (ad2.add k) = some (.int .i64 v) := (World.cell?_alloc_lt _ _ _ (by rw [block_of_add]; omega)).trans ((HB.out.cell (by rw [block_of_add]; exact hab2)).trans hc2)
        clear hq9 hvk hab2 hc2
        have hn0 : (((y.data.size : Int) - y.safe + 1) == 0) = false := by simp; omega
        have b3 : (k : Int) < (n : Int) := by omega
        by_cases hneg : Int.tmod v ((y.data.size : Int) - y.safe + 1) < 0
        · rw [if_pos hneg] at hq8
          have hr1' := Int.lt_tmod_of_pos v (show 0 < (y.data.size : Int) - y.safe + 1 by omega)
          obtain ⟨rr, hr⟩ : ∃ r, Int.tmod v ((y.data.size : Int) - y.safe + 1) = r := ⟨_, rfl⟩
          rw [hr] at hneg hq8 hr1'
          go_upto_region 13 with (fail)
          rw [HX.out]
          go_upto_region 14 with (fail)
          rw [HW5.out]
          have p0 : W5.cell? ⟨wr.heap.size, 0, none⟩ = some (.string y.name) := by rw [Lib.cell_of_heap HP5.out]; rfl
          have p1 : W5.cell? ⟨wr.heap.size, 1, none⟩ = some (.string X) := by rw [Lib.cell_of_heap HP5.out]; rfl
          have p2 : W5.cell? ⟨wr.heap.size, 2, none⟩ = some (.int .i64 (X.size : Int)) := by rw [Lib.cell_of_heap HP5.out]; rfl
          have ho1 := HO5.out.alloc (.cells #[.string y.name, .string X, .int .i64 (X.size : Int)] 121)
          have hb1 := HB5.out.alloc hbs5 (.cells #[.string y.name, .string X, .int .i64 (X.size : Int)] 121)
          go_wp2_with (at_builtin; go_loud (refine wpList_append_any _ rfl _ _ 89 rfl w1.heap.size 121 i0 z0 3 40 Tryz.underlying89 hinf hz0 hz1 hz2 hz3 (by decide) _ _ _ rfl ho1 _ _ 1 _ _ rfl hr1 ?d2 ?d3 ?d4 ?d5 ?_))
          case d2 => first | exact ⟨rfl, rfl, rfl⟩ | (intro u hu; simp only [List.mem_cons, List.not_mem_nil, or_false] at hu; rcases hu with rfl | rfl | rfl <;> rfl)
          case d3 => unfold maxLen; omega
          case d4 => omega
          case d5 => first | exact hb1.size | omega
          intro v4 w4 hown4 hgrow4 _
          have hb4 : Below w1.heap.size w1 w4 := hb1.grown hgrow4 hb1.size (fun q hq => (ho1.lt q hq).1)
          have e4 : cellsOf (L.take k) ++ [.string y.name, .string X, .int .i64 (X.size : Int)] = cellsOf (L.take (k + 1)) := by
            rw [take_snoc HST.out, cellsOf_app, HCT.out]; rfl
          rw [e4] at hown4
          have HO4 := Lib.hid hown4; have HB4 := Lib.hid hb4
          clear hown4 hb4 hgrow4 e4 hr1 ho1 hb1 e0 e1 e2 p0 p1 p2
          go_wp2
          go_roundw
          case rel => exact ⟨k + 1, hlt, by go_num, HO4.out, HB4.out⟩
          case measure => simp [intOf]; omega
        · rw [if_neg hneg] at hq8
          obtain ⟨rr, hr⟩ : ∃ r, Int.tmod v ((y.data.size : Int) - y.safe + 1) = r := ⟨_, rfl⟩
          rw [hr] at hneg hq8
          subst hq8
          go_upto_region 13 with (fail)
          rw [HX.out]
          go_upto_region 14 with (fail)
          rw [HW5.out]
          have p0 : W5.cell? ⟨wr.heap.size, 0, none⟩ = some (.string y.name) := by rw [Lib.cell_of_heap HP5.out]; rfl
          have p1 : W5.cell? ⟨wr.heap.size, 1, none⟩ = some (.string X) := by rw [Lib.cell_of_heap HP5.out]; rfl
          have p2 : W5.cell? ⟨wr.heap.size, 2, none⟩ = some (.int .i64 (X.size : Int)) := by rw [Lib.cell_of_heap HP5.out]; rfl
          have ho1 := HO5.out.alloc (.cells #[.string y.name, .string X, .int .i64 (X.size : Int)] 121)
          have hb1 := HB5.out.alloc hbs5 (.cells #[.string y.name, .string X, .int .i64 (X.size : Int)] 121)
          go_wp2_with (at_builtin; go_loud (refine wpList_append_any _ rfl _ _ 89 rfl w1.heap.size 121 i0 z0 3 40 Tryz.underlying89 hinf hz0 hz1 hz2 hz3 (by decide) _ _ _ rfl ho1 _ _ 1 _ _ rfl hr1 ?d2 ?d3 ?d4 ?d5 ?_))
          case d2 => first | exact ⟨rfl, rfl, rfl⟩ | (intro u hu; simp only [List.mem_cons, List.not_mem_nil, or_false] at hu; rcases hu with rfl | rfl | rfl <;> rfl)
          case d3 => unfold maxLen; omega
          case d4 => omega
          case d5 => first | exact hb1.size | omega
          intro v4 w4 hown4 hgrow4 _
          have hb4 : Below w1.heap.size w1 w4 := hb1.grown hgrow4 hb1.size (fun q hq => (ho1.lt q hq).1)
          have e4 : cellsOf (L.take k) ++ [.string y.name, .string X, .int .i64 (X.size : Int)] = cellsOf (L.take (k + 1)) := by
            rw [take_snoc HST.out, cellsOf_app, HCT.out]; rfl
          rw [e4] at hown4
          have HO4 := Lib.hid hown4; have HB4 := Lib.hid hb4
          clear hown4 hb4 hgrow4 e4 hr1 ho1 hb1 e0 e1 e2 p0 p1 p2
          go_wp2
          go_roundw
          case rel => exact ⟨k + 1, hlt, by go_num, HO4.out, HB4.out⟩
          case measure => simp [intOf]; omega
      · have hq0 : q = 0 := by
          rw [← hq9]
          unfold kOf
          rw [List.getElem?_eq_none (by have := HN.out; omega)]
        subst hq0
        clear hq9
        go_upto_region 13 with (fail)
        have HX0 : Hid (y.data.extract 0 y.safe.toNat = X) := by
          have h := HX.out
          rw [Int.add_zero] at h
          exact h
        first | rw [HX.out] | rw [HX0.out]
        go_upto_region 14 with (fail)
        rw [HW5.out]
        have p0 : W5.cell? ⟨wr.heap.size, 0, none⟩ = some (.string y.name) := by rw [Lib.cell_of_heap HP5.out]; rfl
        have p1 : W5.cell? ⟨wr.heap.size, 1, none⟩ = some (.string X) := by rw [Lib.cell_of_heap HP5.out]; rfl
        have p2 : W5.cell? ⟨wr.heap.size, 2, none⟩ = some (.int .i64 (X.size : Int)) := by rw [Lib.cell_of_heap HP5.out]; rfl
        have ho1 := HO5.out.alloc (.cells #[.string y.name, .string X, .int .i64 (X.size : Int)] 121)
        have hb1 := HB5.out.alloc hbs5 (.cells #[.string y.name, .string X, .int .i64 (X.size : Int)] 121)
        go_wp2_with (at_builtin; go_loud (refine wpList_append_any _ rfl _ _ 89 rfl w1.heap.size 121 i0 z0 3 40 Tryz.underlying89 hinf hz0 hz1 hz2 hz3 (by decide) _ _ _ rfl ho1 _ _ 1 _ _ rfl hr1 ?d2 ?d3 ?d4 ?d5 ?_))
        case d2 => first | exact ⟨rfl, rfl, rfl⟩ | (intro u hu; simp only [List.mem_cons, List.not_mem_nil, or_false] at hu; rcases hu with rfl | rfl | rfl <;> rfl)
        case d3 => unfold maxLen; omega
        case d4 => omega
        case d5 => first | exact hb1.size | omega
        intro v4 w4 hown4 hgrow4 _
        have hb4 : Below w1.heap.size w1 w4 := hb1.grown hgrow4 hb1.size (fun q hq => (ho1.lt q hq).1)
        have e4 : cellsOf (L.take k) ++ [.string y.name, .string X, .int .i64 (X.size : Int)] = cellsOf (L.take (k + 1)) := by
          rw [take_snoc HST.out, cellsOf_app, HCT.out]; rfl
        rw [e4] at hown4
        have HO4 := Lib.hid hown4; have HB4 := Lib.hid hb4
        clear hown4 hb4 hgrow4 e4 hr1 ho1 hb1 e0 e1 e2 p0 p1 p2
        go_wp2
        go_roundw
        case rel => exact ⟨k + 1, hlt, by go_num, HO4.out, HB4.out⟩
        case measure => simp [intOf]; omega
    · obtain rfl : k = m := by omega
      have HEND := Lib.hid ((HK1.out.below HB.out).setL (l := L.take k) HO.out (by rw [List.length_take, HLL.out, Nat.min_self]) hxl1)
      have HTL : Hid (L.take k = L) := List.take_of_length_le (by rw [HLL.out]; exact Nat.le_refl _)
      have fx : wr.frozen? ⟨x, 1, none⟩ = false := (HK1.out.below HB.out).frozen 1
      have HMV := Lib.hid (HM1.out.trans (mv_row (x := x) (S := S) HXS.out HB.out (fun q hq => (HO.out.lt q hq).1) 1))
      go_wp2
      go_end0
      have h9 := HEND.out
      rw [HTL.out] at h9
      first | exact ⟨rfl, _, h9, HMV.out⟩ | exact ⟨_, rfl, h9, HMV.out⟩
end Go.Proofs.YtfmbadinfhpihaaGreat
