/-
  Package value's Merge as a contract: the walk.
  Conditions: pledges in a list that the call reads; quantities from 0 on, of each asset at most 2^60 in all.
-/
import Derived.Test.YtiekolbkmgdfoaaMg1
import Derived.Test.YtiekolbkmgdfoaaWords2
namespace Go.Proofs.Ytiekolbkmgdfoaa
open Go.RowKit Go.Maps Go.Sort Go.Shelf
set_option maxRecDepth 100000

theorem nms_len (l : List (ByteArray × Int)) : (Mg.nms l).length ≤ l.length := by
  unfold Mg.nms srt
  rw [lstS_len (goodS_set _)]
  have := size_set (l.map (·.1))
  rw [List.length_map] at this
  exact this
theorem plCells_one (l : List (ByteArray × Int)) : ∀ u ∈ Vl.plCells l, u.oneCell' = true := by
  intro u hu
  unfold Vl.plCells at hu
  obtain ⟨x, _, hx⟩ := List.mem_flatMap.1 hu
  simp only [List.mem_cons, List.not_mem_nil, or_false] at hx
  rcases hx with rfl | rfl <;> rfl
theorem own_weaken2 {w : World} {B B' : Nat} {e : TypeId} {sz : Nat} {v : Value} {n : Nat} {xs : List Value} (h : w.ownsRow B e sz v n xs) (hB : B' ≤ B) : w.ownsRow B' e sz v n xs := by
  refine ⟨h.1, ?_⟩
  rcases h.2 with h | ⟨g, cap, cur, h1, h2, h3⟩
  · exact .inl h
  · exact .inr ⟨g, cap, cur, h1, Nat.le_trans hB h2, h3⟩
theorem sum_nonneg_int : ∀ {zs : List Int}, (∀ z ∈ zs, 0 ≤ z) → 0 ≤ zs.sum
  | [], _ => by simp
  | z :: zs, h => by
    have h1 := h z (by simp)
    have h2 := sum_nonneg_int (zs := zs) (fun x hx => h x (by simp [hx]))
    rw [List.sum_cons]
    omega
/-- What Merge tells. -/
def MergeOut (l : List (ByteArray × Int)) (w : World) (e : Ending) (w' : World) : Prop :=
  ∃ v, e = .returned v ∧ w'.ownsRow w.heap.size 36 2 v (Mg.merge l).length (Vl.plCells (Mg.merge l)) ∧ Below w.heap.size w w'
set_option maxHeartbeats 8000000 in
theorem merge_any (l : List (ByteArray × Int)) (A : Option Addr) (cp n : Nat) (hn : l.length = n) (w : World) (hr : Reads w w.heap.size 2 A n (Vl.plCells l)) (hl : n ≤ 1000) (hf : Mg.Fine l) (hz : ∀ x ∈ l, x.1.size ≤ 9223372036854775807 ∧ x.2 ≤ 9223372036854775807) :
    Calls Try.prog 12 #[.slice A n cp] w fun e w' => MergeOut l w e w' := by
  have hmm := @run_makeMap Try.prog
  obtain ⟨i0, hi, hz0, hz1, hz2⟩ := info_parts info_int
  obtain ⟨j0, hi', hz0', hz1', hz2'⟩ := info_parts info_pledge
  have HN := Lib.hid hn; have HR := Lib.hid hr; have HF := Lib.hid hf; have HZ := Lib.hid hz
  clear hn hr hf hz
  go_enter Try.func12, Try.ntmps12
  go_wp2
  go_loopw [14] (fun i wr => ∃ (k : Nat) (D : DataW Unit), k ≤ n ∧ i = .int .i64 k ∧ Hid (wr.ownsGroups Try.prog 9 (w.heap.size + 1) 3 .i64 w.heap.size k D) ∧ Hid (Mg.Grp D (l.take k)) ∧ Hid (Below w.heap.size w wr) ∧ w.heap.size + 1 ≤ wr.heap.size) (fun i _ => n - (intOf i).toNat)
  case atStart => exact ⟨0, .map [], Nat.zero_le _, rfl, World.ownsGroups_made _ _ _ _ _, Mg.grp_none, (Below.refl _ _).alloc (Nat.le_refl _) _, by simp⟩
  case round =>
    obtain ⟨k, D, hk, rfl, HG, HD, HB, hws⟩ := hrel
    by_cases hlt : k < n
    · obtain ⟨ad, s, q, rfl, hab, hxk, hc0⟩ := pl_at (HR.out.below HB.out) (show k < l.length by rw [HN.out]; exact hlt)
      have hzz := HZ.out _ (List.mem_of_getElem? hxk)
      have hqn := HF.out.nn _ (List.mem_of_getElem? hxk)
      simp only at hzz hqn
      have HC := Lib.hid hc0
      have HXK := Lib.hid hxk
      obtain ⟨W, hW⟩ : ∃ W, wr.alloc (.cells #[.string s, .int .i64 q] 36) = W := ⟨_, rfl⟩
      obtain ⟨g0, hg0⟩ : ∃ g, wr.heap.size = g := ⟨_, rfl⟩
      have hgW : W.heap.size = g0 + 1 := by rw [← hW, ← hg0]; simp
      have hblk : W.heap[g0]? = some (.cells #[.string s, .int .i64 q] 36 (0, 0)) := by rw [← hW, ← hg0]; exact heap_alloc_new wr _
      have hbW := (groups_lt HG.out).2
      have hGr : ∀ row, wr.grownBy W row := fun row => by rw [← hW]; exact World.grownBy_alloc wr _ _
      obtain ⟨v, zs, hlk, hat, hoi, hzl, hback⟩ := groups_at HG.out keyT Try.underlying56 zeroI (by unfold maxLen; omega) (key_str hzz.1)
      have hzs := HD.out.zs hoi hat
      have hWb : W.heap[w.heap.size]? = wr.heap[w.heap.size]? := by rw [← hW]; exact Below.heap_alloc wr _ _ hbW
      have hlk0 := hlk W.drew hWb
      have hlk1 : ∀ o, (Instr.lookup 56 (.map (some w.heap.size)) (.string s) false).run Try.prog (W.alloc o).drew = .ok v (W.alloc o).drew := fun o => hlk _ ((Below.heap_alloc W.drew o _ (show w.heap.size < W.heap.size by omega)).trans hWb)
      have c0 : W.cell? ⟨g0, 0, none⟩ = some (.string s) := by rw [Lib.cell_of_heap hblk]; rfl
      have c1 : W.cell? ⟨g0, 1, none⟩ = some (.int .i64 q) := by rw [Lib.cell_of_heap hblk]; rfl
      have hoW : (W.drew.alloc (.cells #[.int .i64 q] 3)).ownsRow (w.heap.size + 1) 3 1 v zs.length (zs.map (Value.int .i64)) := by
        have h1 : W.drew.ownsRow (w.heap.size + 1) 3 1 v zs.length (zs.map (Value.int .i64)) := by
          have h2 := hoi.1.kept (hGr none) (by cases v.ownBlock <;> simp)
          exact ownsRow_keep h2 (fun _ _ => rfl)
        exact h1.alloc _
      have hwf : (Lit.int .i64 q).wf = true := WalkArith.wf_i64 (by omega)
      have happ : ∀ v' w1, w1.ownsRow (w.heap.size + 1) 3 1 v' (zs.length + 1) (zs.map (Value.int .i64) ++ [.int .i64 q]) → (W.drew.alloc (.cells #[.int .i64 q] 3)).grownBy w1 v.ownBlock → (v'.ownBlock = v.ownBlock ∨ v'.ownBlock = some (W.drew.alloc (.cells #[.int .i64 q] 3)).heap.size) →
          ∃ w2, (Instr.mapUpdate 56 (.map (some w.heap.size)) (.string s) v').run Try.prog w1 = .ok () w2 ∧ Hid (w2.ownsGroups Try.prog 9 (w.heap.size + 1) 3 .i64 w.heap.size (k + 1) (D.put (kS s) (.slice (ChangeShapes.lits .i64 (zs ++ [q])) []))) ∧ Hid (Below w.heap.size w w2) ∧ Hid (w.heap.size + 1 ≤ w2.heap.size) ∧
            (w1.cell? ⟨g0, 0, none⟩ = some (.string s) ∧ w1.cell? ⟨g0, 1, none⟩ = some (.int .i64 q)) ∧ (w2.cell? ⟨g0, 0, none⟩ = some (.string s) ∧ w2.cell? ⟨g0, 1, none⟩ = some (.int .i64 q)) := by
        intro v' w1 hown' hgrow hloc
        have hal : ∀ row, wr.grownBy (W.drew.alloc (.cells #[.int .i64 q] 3)) row := fun row => (hGr row).trans ⟨rfl, rfl, rfl, by simp, fun k hk _ => Below.heap_alloc W.drew _ k hk⟩
        have hall := (hal v.ownBlock).trans hgrow
        have hap : w1.ownsInts (w.heap.size + 1) 3 .i64 v' (zs ++ [q]) := hoi.appended hown' hwf
        obtain ⟨w2, hrun2, hown2, hgrow2⟩ := hback w1 v' (zs ++ [q]) hall hap (by simp; omega) (hloc.imp id (fun h => ⟨_, h, by simp; omega⟩))
        rw [hap.datum_pos (by simp)] at hown2
        have hb2 := HB.out.groups hoi hall hgrow2 HB.out.size (Nat.le_succ _) (Nat.le_refl _)
        have hs1 := hall.size
        have hs2 := hgrow2.size
        have hb1 : w1.heap[g0]? = some (.cells #[.string s, .int .i64 q] 36 (0, 0)) := by
          rw [hgrow.block g0 (by simp; omega) (fun e => by have := (hoi.1.lt g0 e.symm).2; omega)]
          exact (Below.heap_alloc W.drew _ g0 (show g0 < W.heap.size by omega)).trans hblk
        have hb2' : w2.heap[g0]? = some (.cells #[.string s, .int .i64 q] 36 (0, 0)) := (hgrow2.block g0 (Blk.lt (t := 36) hb1) (fun e => by injection e; omega)).trans hb1
        exact ⟨w2, hrun2, hown2, hb2, by show _ ≤ _; omega, ⟨by rw [Lib.cell_of_heap hb1]; rfl, by rw [Lib.cell_of_heap hb1]; rfl⟩, ⟨by rw [Lib.cell_of_heap hb2']; rfl, by rw [Lib.cell_of_heap hb2']; rfl⟩⟩
      have hrdA : Reads (W.drew.alloc (.cells #[.int .i64 q] 3)) (W.heap.size + 1) 1 (some ⟨g0 + 1, 0, none⟩) 1 [.int .i64 q] := by
        rw [← hgW]
        exact reads_newV W.drew [.int .i64 q] 3 #[.int .i64 q] rfl rfl rfl (Nat.lt_succ_self _)
      have hst : Mg.Grp (D.put (kS s) (.slice (ChangeShapes.lits .i64 (zs ++ [q])) [])) (l.take (k + 1)) := by
        rw [hzs, take_snoc HXK.out]
        exact HD.out.step s q
      have hwh : w.heap.size + 1 ≤ W.heap.size + 1 := by omega
      have HST := Lib.hid hst
      obtain ⟨m, hm⟩ : ∃ m, zs.length = m := ⟨_, rfl⟩
      rw [hm] at hoW happ hzl
      have HAPP := Lib.hid happ; have HOW := Lib.hid hoW; have HRD := Lib.hid hrdA
      clear hlk hc0 hxk happ hoW hrdA hst hat hback hzs hm hWb hblk hGr HG hoi hbW
      go_wp2_with (first
        | (refine wpList_load_cells rfl 36 _ rfl (ad.add (k * 2)) rfl [.string s, .int .i64 q] _ HC.out Try.underlying36 rfl size_pledge ?_)
        | (refine wpList_store_last rfl 36 _ _ rfl _ 36 _ _ rfl rfl (by exact size_pledge) (by rfl) (by simp [Value.oneCell']) ?_))
      clear hW
      go_region_held_law (fun V => V.cell? ⟨g0, 0, none⟩ = some (.string s) ∧ V.cell? ⟨g0, 1, none⟩ = some (.int .i64 q))
        (first | exact ⟨c0, c1⟩ | exact d1 | exact d2 | exact ⟨(World.cell?_alloc_lt _ _ _ (show g0 < W.heap.size by omega)).trans c0, (World.cell?_alloc_lt _ _ _ (show g0 < W.heap.size by omega)).trans c1⟩)
        ((refine step_append_any _ rfl (.tmp 24) (.tmp 27) 50 rfl (w.heap.size + 1) 3 i0 (.int .i64 0) 1 8 Try.underlying50 hi hz0 hz1 hz2 rfl (by decide) v m (zs.map (Value.int .i64)) rfl HOW.out (W.heap.size + 1) (some ⟨g0 + 1, 0, none⟩) 1 1 [.int .i64 q] rfl HRD.out (by simp [Value.oneCell']) (by unfold maxLen; omega) (by omega) (by simp; omega) ?_; intro v' w1 hown' hgrow hloc; obtain ⟨w2, hrun2, hG2, hB2, hs2, d1, d2⟩ := HAPP.out _ _ hown' hgrow hloc; clear hown' hgrow hloc))
      all_goals
        go_wp2
        go_roundw
        case rel => exact ⟨k + 1, _, by omega, by go_num, hG2, HST, hB2, hs2.out⟩
        case measure => simp [intOf]; omega
    · obtain rfl : k = n := by omega
      have hD : Mg.Grp D l := by
        have h := HD.out
        rw [List.take_of_length_le (by rw [HN.out]; omega)] at h
        exact h
      have hsz : Maps.size D ≤ 1000000 := by
        have h1 := nms_len l
        have h2 := lstS_len hD.good
        rw [hD.names] at h2
        rw [HN.out] at h1
        omega
      have hS := sorted_any w.heap.size k D wr (groups_map HG.out) hsz
      have HS := Lib.hid hS
      have HDD := Lib.hid hD
      clear hS hD hsz HD
      go_wp2_with fail
      refine (keys_any _ _).mono ?_
      rintro e w1 ⟨rfl, rfl⟩
      go_wp2_with fail
      refine HS.out.mono ?_
      rintro e w2 ⟨v, ss, rfl, hp, hown, _, hb2⟩
      have hsort : ss.mergeSort (fun x y => decide (x ≤ y)) = (strKeys D).mergeSort leB := mergeSort_of_perm hp
      rw [hsort] at hown
      obtain ⟨N, hNN⟩ : ∃ N, Mg.nms l = N := ⟨_, rfl⟩
      have hNl : lstS D = N := HDD.out.names.trans hNN
      obtain ⟨m, hm⟩ : ∃ m, N.length = m := ⟨_, rfl⟩
      have hln : ss.length = m := by rw [hp.length_eq, ← hm, ← hNl]; unfold lstS; rw [List.length_map, List.length_mergeSort]
      rw [encs, hln] at hown
      have hown2 : w2.ownsRow (wr.heap.size + 1) 9 1 v m (strs N) := by rw [← hNl]; exact hown
      have hbk : Below wr.heap.size wr w2 := ((Below.refl wr.heap.size wr).alloc (Nat.le_refl _) _).trans (hb2.mono (by omega))
      have hb2w := HB.out.trans (hbk.mono HB.out.size)
      have hG2 := groups_below HG.out hbk
      have hml : m ≤ k := by
        have h1 := nms_len l
        rw [hNN, hm, HN.out] at h1
        exact h1
      obtain ⟨A2, c2, rfl, hAc⟩ := own_form hown2
      have hrd := Reads.of_own hown2
      have HG2 := Lib.hid hG2; have HB2 := Lib.hid hb2w; have HRD := Lib.hid hrd; have HM := Lib.hid hm; have HNN := Lib.hid hNN
      clear hown hown2 hb2 hp hsort hln hNl hbk hG2 hb2w hrd hm hNN HS HG HB hAc
      go_wp2
      go_loopw [6, 34] (fun vo i wr => ∃ (j : Nat) (o : List (ByteArray × Int)), j ≤ m ∧ i = .int .i64 j ∧ o.length ≤ j ∧ Hid (o = Mg.told l (N.take j)) ∧ Hid (wr.ownsRow w2.heap.size 36 2 vo o.length (Vl.plCells o)) ∧ Hid (Below w2.heap.size w2 wr)) (fun _ i _ => m - (intOf i).toNat)
      case atStart => exact ⟨0, [], Nat.zero_le _, rfl, Nat.le_refl _, by show _ = _; simp [Mg.told], World.ownsRow_nil _ _ _ _, Below.refl _ _⟩
      case round =>
        obtain ⟨j, o, hj, rfl, hoj, HO, HW, HBB⟩ := hrel
        by_cases hlt2 : j < m
        · obtain ⟨ad, s, rfl, hab, hsk, hc⟩ := str_at (HRD.out.below HBB.out) hlt2
          have hsm : s ∈ Mg.nms l := by rw [HNN.out]; exact List.mem_of_getElem? hsk
          have hsz : s.size ≤ 9223372036854775807 := by
            obtain ⟨x, hx, rfl⟩ := List.mem_map.1 (Mg.mem_nms.1 hsm)
            exact (HZ.out x hx).1
          have hsz2 := HBB.out.size
          obtain ⟨W, hW⟩ : ∃ W, wr.alloc (.cells #[.bool false] 34) = W := ⟨_, rfl⟩
          have hBW : Below w2.heap.size w2 W := by rw [← hW]; exact HBB.out.alloc hsz2 _
          have hGW := groups_below HG2.out hBW
          have hOW : W.ownsRow w2.heap.size 36 2 u6 o.length (Vl.plCells o) := by rw [← hW]; exact HW.out.alloc _
          have hts := Mg.told_snoc (l := l) hsk
          rw [← HO.out] at hts
          have HTS := Lib.hid hts
          have HOW := Lib.hid hOW; have HBW := Lib.hid hBW
          have hkey := key_str hsz
          have HZI : Hid ((zeroValue 50).run Try.prog W = .ok (.slice none 0 0) W) := zeroI W
          clear hts hOW hBW hsm hsk HW HO
          go_wp2_with (at_lookup; refine wpList_lookup_groups _ rfl _ _ 56 rfl 9 50 3 .i64 keyT Try.underlying56 HZI.out (w.heap.size + 1) w.heap.size k D rfl hGW (by unfold maxLen; omega) _ _ rfl hkey ?_; intro v zs hat hoi hzl hback; clear hback)
          have hzs := HDD.out.zs hoi hat
          have hnn : ∀ z ∈ zs, 0 ≤ z := fun z hz => by
            rw [hzs] at hz
            obtain ⟨x, hx, rfl⟩ := Mg.qs_mem hz
            exact HF.out.nn x hx
          have hsum : Mg.sumAt l s = zs.sum := by rw [Mg.qs_sum, ← hzs]
          have hle : zs.sum ≤ 1152921504606846976 := by rw [← hsum]; exact HF.out.le s
          obtain ⟨A9, c9, rfl, _⟩ := own_form hoi.1
          have hrz := Reads.of_own hoi.1
          obtain ⟨m9, hm9⟩ : ∃ m9, zs.length = m9 := ⟨_, rfl⟩
          obtain ⟨S, hS⟩ : ∃ S, zs.sum = S := ⟨_, rfl⟩
          have qa := addI wr.heap.size zs hnn m9 hm9 A9 c9 W.heap.size W (by rw [← hm9]; exact hrz) (by omega) hle
          have hS0 : 0 ≤ S := by rw [← hS]; exact sum_nonneg_int hnn
          rw [hS] at qa hsum hle
          rw [hm9]
          have QA := Lib.hid qa; have HSUM := Lib.hid hsum
          clear qa hat hoi hzs hnn hzl hrz hm9 hS hsum hkey hGW
          refine QA.out.mono ?_
          rintro e w4 ⟨rfl, rfl⟩
          by_cases h0 : S = 0
          · subst h0
            have hto : o = Mg.told l (N.take (j + 1)) := by rw [HTS.out, HSUM.out]; simp
            have HTO := Lib.hid hto
            clear hto HTS
            go_wp2
            go_roundw
            case rel => exact ⟨j + 1, o, by omega, by go_num, by omega, HTO.out, HOW.out, HBW.out⟩
            case measure => simp [intOf]; omega
          · have hto : o ++ [(s, S)] = Mg.told l (N.take (j + 1)) := by rw [HTS.out, HSUM.out]; simp [h0]
            have HTO := Lib.hid hto
            clear hto HTS hW
            have hsW := HBW.out.size
            go_wp2_with (at_builtin; refine wpList_append_any _ rfl _ _ 28 rfl w2.heap.size 36 j0 (.agg #[.string ⟨#[]⟩, .int .i64 0]) 2 24 Try.underlying28 hi' hz0' hz1' hz2' rfl (by decide) _ _ _ rfl (HOW.out.alloc _) (W.heap.size + 1) (some ⟨W.heap.size, 0, none⟩) 1 1 [.string s, .int .i64 S] rfl ?c1 ?c2 ?c3 ?c4 ?c5 ?_)
            case c1 => exact reads_new2 W _ _ _
            case c2 => simp [Value.oneCell']
            case c3 => unfold maxLen; omega
            case c4 => omega
            case c5 => simp; omega
            intro v3 w3 hown3 hgrow3 _
            have hb3 : Below w2.heap.size w2 w3 := (HBW.out.alloc hsW _).grown hgrow3 (by simp; omega) (fun j hj => (HOW.out.lt j hj).1)
            have HO3 : Hid (w3.ownsRow w2.heap.size 36 2 v3 (o ++ [(s, S)]).length (Vl.plCells (o ++ [(s, S)]))) := by
              show World.ownsRow _ _ _ _ _ _ _
              rw [Vl.plCells_snoc, List.length_append]
              exact hown3
            have HB3 := Lib.hid hb3
            clear hown3 hgrow3 hb3
            go_wp2
            go_roundw
            case rel => exact ⟨j + 1, o ++ [(s, S)], by omega, by go_num, by simp; omega, HTO.out, HO3.out, HB3.out⟩
            case measure => simp [intOf]; omega
        · obtain rfl : j = m := by omega
          have ho : o = Mg.merge l := by
            rw [HO.out, List.take_of_length_le (by rw [HM.out]; omega), ← HNN.out]
            rfl
          have HOO := Lib.hid ho
          clear ho HO
          go_wp2
          go_ret
          have h1 := HB2.out.size
          refine ⟨_, rfl, ?_, HB2.out.trans (HBB.out.mono h1)⟩
          rw [← HOO.out]
          exact own_weaken2 HW.out h1
end Go.Proofs.Ytiekolbkmgdfoaa
