/-
  The document's Sort (complineref1) as a contract.
  Conditions: at most 10^6 texts.
-/
import Derived.Test.YtlniafpbkhkkaaaGreatRcmp
import Derived.Test.YtlniafpbkhkkaaaGreatBk2
namespace Go.Proofs.YtlniafpbkhkkaaaGreat
open Go.RowKit
attribute [local go_sem ↓] Go.wp_at_zero Go.wp_at_succ
set_option maxRecDepth 100000

theorem rs_info_str : (Tryz.prog.info? 9).map (fun i => (i.zero, i.size, i.bytes)) = some (some (.string ⟨#[]⟩), 1, 16) := by kernel_rfl
theorem strict_take {O : List ByteArray} {j : Nat} {a s : ByteArray} (ha : O[j]? = some a) (h : ∀ i a, i < j → O[i]? = some a → a.data.toList < s.data.toList) (hlt : a.data.toList < s.data.toList) : ∀ i a, i < j + 1 → O[i]? = some a → a.data.toList < s.data.toList := by
  intro i b hi hb
  rcases Nat.lt_or_ge i j with h1 | h1
  · exact h i b h1 hb
  · obtain rfl : i = j := by omega
    rw [ha] at hb
    injection hb with hb
    subst hb
    exact hlt
theorem strs_one' (ss : List ByteArray) : ∀ u ∈ strs ss, u.oneCell' = true := by
  intro u hu
  unfold strs at hu
  obtain ⟨_, _, rfl⟩ := List.mem_map.1 hu
  rfl
theorem strs_drop (l : List ByteArray) (k : Nat) : strs (l.drop k) = (strs l).drop k := by simp [strs, List.map_drop]
theorem strs_take (l : List ByteArray) (k : Nat) : strs (l.take k) = (strs l).take k := by simp [strs, List.map_take]
theorem reads_part {w : World} {B n k : Nat} {A : Option Addr} {ss : List ByteArray} (h : Reads w B 1 A n (strs ss)) (hk : k ≤ n) : Reads w B 1 A k (strs (ss.take k)) := by
  refine ⟨by have := h.1; simp [strs] at this ⊢; omega, fun hn => ?_⟩
  obtain ⟨ad, e, hb, hc⟩ := h.2 (by omega)
  refine ⟨ad, e, hb, fun j u hu => hc j u ?_⟩
  rw [strs_take, List.getElem?_take] at hu
  split at hu
  · exact hu
  · cases hu
set_option maxHeartbeats 8000000 in
theorem rsort_any (ss : List ByteArray) (A : Option Addr) (c : Nat) (w : World) (hr : Reads w w.heap.size 1 A ss.length (strs ss)) (hn : ss.length ≤ 1000000) (hs : ∀ s ∈ ss, s.size ≤ 9223372036854775807) :
    Calls Tryz.prog 10 #[.slice A ss.length c] w fun e w' => ∃ A' cap, e = .returned (.slice A' (srt ss).length cap) ∧ w'.ownsRow w.heap.size 9 1 (.slice A' (srt ss).length cap) (srt ss).length (strs (srt ss)) ∧ Below w.heap.size w w' := by
  obtain ⟨i0, hinf, hz0, hz1, hz2⟩ := info_parts rs_info_str
  obtain ⟨n, hnn⟩ : ∃ n, ss.length = n := ⟨_, rfl⟩
  rw [hnn] at hr hn ⊢
  have HN := Lib.hid hnn; have HS := Lib.hid hs
  clear hnn hs
  go_enter Tryz.func10, Tryz.ntmps10
  go_wp2
  go_loopw [3, 4] (fun o i wr => ∃ (k m : Nat) (O : List ByteArray) (Ao : Option Addr) (co : Nat), k ≤ n ∧ i = .int .i64 k ∧ o = .slice Ao m co ∧ m ≤ co ∧ m ≤ k ∧ Hid (O.length = m) ∧ Hid (StrictS O) ∧ Hid (∀ s, s ∈ O ↔ s ∈ ss.take k) ∧ Hid (wr.ownsRow w.heap.size 9 1 (.slice Ao m co) m (strs O)) ∧ Hid (Below w.heap.size w wr)) (fun _ i _ => n - (intOf i).toNat)
  case atStart => exact ⟨0, 0, [], none, 0, Nat.zero_le _, rfl, rfl, Nat.le_refl _, Nat.le_refl _, rfl, List.Pairwise.nil, by intro s; simp, World.ownsRow_nil _ _ _ _, Below.refl _ _⟩
  case round =>
    obtain ⟨k, m, O, Ao, co, hk, rfl, rfl, hmc, hmk, HOL, HST, HMEM, HO, HB⟩ := hrel
    have hzr : w.heap.size ≤ wr.heap.size := HB.out.size
    by_cases hlt : k < n
    · obtain ⟨ad, s, rfl, hbl, hsk, hc0⟩ := str_at hr hlt
      have hss : s.size ≤ 9223372036854775807 := HS.out s (List.mem_of_getElem? hsk)
      have hcs : wr.cell? (ad.add k) = some (.string s) := by rw [HB.out.cell (by rw [block_of_add]; omega)]; exact hc0
      have hbl2 : ad.block < wr.heap.size := by omega
      have HSK := Lib.hid hsk
      have HRO : Hid (Reads wr wr.heap.size 1 Ao m (strs O)) := Reads.of_own HO.out
      obtain ⟨wo, hwo⟩ : ∃ wo : World, wo = wr := ⟨_, rfl⟩
      subst hwo
      clear hsk hc0
      go_wp2
      go_loopw [5] (fun i w6 => ∃ j : Nat, j ≤ m ∧ i = .int .i64 j ∧ Hid (∀ i a, i < j → O[i]? = some a → a.data.toList < s.data.toList) ∧ Hid (∃ q, w6 = wo.drewN q)) (fun i _ => m - (intOf i).toNat)
      case atStart => exact ⟨0, Nat.zero_le _, rfl, fun i a h => absurd h (by omega), 0, rfl⟩
      case round =>
        obtain ⟨j, hj, rfl, HJ, HQ⟩ := hrel
        obtain ⟨q, hq⟩ := HQ.out
        have hcs : wr.cell? (ad.add k) = some (.string s) := by rw [hq]; exact hcs
        have HW := Lib.hid hq
        clear hq HQ
        have HO6 : Hid (wr.ownsRow w.heap.size 9 1 (.slice Ao m co) m (strs O)) := by show World.ownsRow _ _ _ _ _ _ _; rw [HW.out]; exact HO.out
        have HB6 : Hid (Below w.heap.size w wr) := by show Below _ _ _; rw [HW.out]; exact drewN_below HB.out q
        have HRO6 : Hid (Reads wr wr.heap.size 1 Ao m (strs O)) := Reads.of_own HO6.out
        have hz6 : w.heap.size ≤ wr.heap.size := HB6.out.size
        have b1 : (0 : Int) ≤ (j : Int) := by omega
        have b3 : (0 : Int) ≤ (k : Int) := by omega
        have b4 : (k : Int) < (n : Int) := by omega
        by_cases hjm : j < m
        rotate_left
        · have hjm2 : j = m := by omega
          have hd : decide (j < m) = false := decide_eq_false (by omega)
          have HLT : Hid (∀ a, O[j]? = some a → s.data.toList < a.data.toList) := fun a h => by
            have := (List.getElem?_eq_some_iff.1 h).1
            have := HOL.out
            omega
          clear hjm hjm2
          go_wp2
          go_quiet (fail)
          go_wp2
          go_quiet (fail)
          go_wp2
          rename_i nq1
          have hX0 : (wr.drewN nq1).drewN nq = (wr.drewN nq1).drewN nq := rfl
          generalize hX : (wr.drewN nq1).drewN nq = X at hX0 ⊢
          clear hX0
          have HXO : Hid (X.ownsRow w.heap.size 9 1 (.slice Ao m co) m (strs O)) := by show World.ownsRow _ _ _ _ _ _ _; rw [← hX]; exact HO6.out
          have HXB : Hid (Below w.heap.size w X) := by show Below _ _ _; rw [← hX]; exact drewN_below (drewN_below HB6.out _) _
          have hcX : X.cell? (ad.add k) = some (.string s) := by rw [← hX]; exact hcs
          have hblX : ad.block < X.heap.size := by rw [← hX, HW.out]; exact hbl2
          have hzX : w.heap.size ≤ X.heap.size := HXB.out.size
          have HRX : Hid (Reads X X.heap.size 1 Ao m (strs O)) := Reads.of_own HXO.out
          have HP : Hid (Reads X X.heap.size 1 Ao j (strs (O.take j))) := reads_part HRX.out hj
          have hjm9 : j ≤ 1000000 := by omega
          have hm9 : m ≤ 1000000 := by omega
          have hjc : j ≤ co := by omega
          have hXd : X.drew.heap.size = X.heap.size := rfl
          clear hX hcs
          refine wp_region_held_drew (S := fun X9 => X9.cell? (ad.add k) = some (.string s)) (by kernel_rfl) (show (X.drew).cell? _ = _ from hcX) (fun hHeld => ?_)
          refine wpAnyH_take (i := 0) (v := ?_) rfl (by kernel_rfl) (by kernel_rfl) (by kernel_rfl) (fun _ _ _ h => h) (Or.inl ⟨by rfl, ?_⟩) (by assumption) ?_
          rotate_left
          · intro X9 hSw; (try dsimp only at hSw); (try simp only [List.getElem_toArray, List.getElem_cons_zero]); first | (go_simp; done) | (go_simp; with_reducible rfl)
          try simp only [Act.put, List.setIfInBounds_toArray, List.set_cons_zero, List.set_cons_succ, List.getElem_toArray, List.getElem_cons_zero]
          refine wpAnyH_take (i := 1) (v := ?_) rfl (by kernel_rfl) (by kernel_rfl) (by kernel_rfl) (fun _ _ _ h => h) (Or.inl ⟨by rfl, ?_⟩) (by assumption) ?_
          rotate_left
          · intro X9 hSw; (try dsimp only at hSw); (try simp only [List.getElem_toArray, List.getElem_cons_succ, List.getElem_cons_zero]); first | (go_simp; done) | (go_simp; with_reducible rfl)
          try simp only [Act.put, List.setIfInBounds_toArray, List.set_cons_zero, List.set_cons_succ, List.getElem_toArray, List.getElem_cons_succ, List.getElem_cons_zero]
          refine wpAnyH_take (i := 2) (v := ?_) rfl (by kernel_rfl) (by kernel_rfl) (by kernel_rfl) (fun _ _ _ h => h) (Or.inl ⟨by rfl, ?_⟩) (by assumption) ?_
          rotate_left
          · intro X9 hSw; (try dsimp only at hSw); (try simp only [List.getElem_toArray, List.getElem_cons_succ, List.getElem_cons_zero]); first | (go_simp; done) | (go_simp; with_reducible rfl)
          try simp only [Act.put, List.setIfInBounds_toArray, List.set_cons_zero, List.set_cons_succ, List.getElem_toArray, List.getElem_cons_succ, List.getElem_cons_zero]
          refine wpAnyH_take (i := 4) (v := ?_) rfl (by kernel_rfl) (by kernel_rfl) (by kernel_rfl) (fun _ _ _ h => h) (Or.inl ⟨by rfl, ?_⟩) (by assumption) ?_
          rotate_left
          · intro X9 hSw; (try dsimp only at hSw); (try simp only [List.getElem_toArray, List.getElem_cons_succ, List.getElem_cons_zero]); first | (go_simp; done) | (go_simp; with_reducible rfl)
          try simp only [Act.put, List.setIfInBounds_toArray, List.set_cons_zero, List.set_cons_succ, List.getElem_toArray, List.getElem_cons_succ, List.getElem_cons_zero]
          refine wpAnyH_take (i := 5) (v := ?_) rfl (by kernel_rfl) (by kernel_rfl) (by kernel_rfl) (fun _ _ _ h => h) (Or.inl ⟨by rfl, ?_⟩) (by assumption) ?_
          rotate_left
          · intro X9 hSw; (try dsimp only at hSw); (try simp only [List.getElem_toArray, List.getElem_cons_succ, List.getElem_cons_zero]); first | (go_simp; done) | (go_simp; with_reducible rfl)
          try simp only [Act.put, List.setIfInBounds_toArray, List.set_cons_zero, List.set_cons_succ, List.getElem_toArray, List.getElem_cons_succ, List.getElem_cons_zero]
          refine wpAnyH_take (i := 6) (v := ?_) rfl (by kernel_rfl) (by kernel_rfl) (by kernel_rfl) (fun _ _ _ h => h) (Or.inl ⟨by rfl, ?_⟩) (by assumption) ?_
          rotate_left
          · intro X9 hSw; (try dsimp only at hSw); (try simp only [List.getElem_toArray, List.getElem_cons_succ, List.getElem_cons_zero]); first | (go_simp; done) | (go_simp; with_reducible rfl)
          try simp only [Act.put, List.setIfInBounds_toArray, List.set_cons_zero, List.set_cons_succ, List.getElem_toArray, List.getElem_cons_succ, List.getElem_cons_zero]
          refine wpAnyH_take (i := 7) (v := ?_) rfl (by kernel_rfl) (by kernel_rfl) (by kernel_rfl) (fun _ _ _ h => h) (Or.inl ⟨by rfl, ?_⟩) (by assumption) ?_
          rotate_left
          · intro X9 hSw; (try dsimp only at hSw); (try simp only [List.getElem_toArray, List.getElem_cons_succ, List.getElem_cons_zero]); first | (go_simp; done) | (go_simp; with_reducible rfl)
          try simp only [Act.put, List.setIfInBounds_toArray, List.set_cons_zero, List.set_cons_succ, List.getElem_toArray, List.getElem_cons_succ, List.getElem_cons_zero]
          refine wpAnyH_take (i := 10) (v := ?_) rfl (by kernel_rfl) (by kernel_rfl) (by kernel_rfl) (fun _ _ _ h => h) (Or.inl ⟨by rfl, ?_⟩) (by assumption) ?_
          rotate_left
          · intro X9 hSw; (try dsimp only at hSw); (try simp only [List.getElem_toArray, List.getElem_cons_succ, List.getElem_cons_zero]); first | (go_simp; done) | (go_simp; with_reducible rfl)
          try simp only [Act.put, List.setIfInBounds_toArray, List.set_cons_zero, List.set_cons_succ, List.getElem_toArray, List.getElem_cons_succ, List.getElem_cons_zero]
          refine wpAnyH_take (i := 11) (v := ?_) rfl (by kernel_rfl) (by kernel_rfl) (by kernel_rfl) (fun _ _ _ h => h) (Or.inl ⟨by rfl, ?_⟩) (by assumption) ?_
          rotate_left
          · intro X9 hSw; (try dsimp only at hSw); (try simp only [List.getElem_toArray, List.getElem_cons_succ, List.getElem_cons_zero]); first | (go_simp; done) | (go_simp; with_reducible rfl)
          try simp only [Act.put, List.setIfInBounds_toArray, List.set_cons_zero, List.set_cons_succ, List.getElem_toArray, List.getElem_cons_succ, List.getElem_cons_zero]
          refine wpAnyH_take (i := 12) (v := ?_) rfl (by kernel_rfl) (by kernel_rfl) (by kernel_rfl) (fun _ _ _ h => h) (Or.inl ⟨by rfl, ?_⟩) (by assumption) ?_
          rotate_left
          · intro X9 hSw; (try dsimp only at hSw); (try simp only [List.getElem_toArray, List.getElem_cons_succ, List.getElem_cons_zero]); first | (go_simp; done) | (go_simp; with_reducible rfl)
          try simp only [Act.put, List.setIfInBounds_toArray, List.set_cons_zero, List.set_cons_succ, List.getElem_toArray, List.getElem_cons_succ, List.getElem_cons_zero]
          refine wpAnyH_ready (rs := [3, 8]) (by kernel_rfl) (by simp) (AllReadyH.cons rfl (fun K hK => ?_) (AllReadyH.cons rfl (fun K hK => ?_) (AllReadyH.nil)))
          · refine step_append_any (X.drew) rfl (.const (.slice none 0 0)) (.tmp 47) 22 rfl w.heap.size 9 i0 (.string ⟨#[]⟩) 1 16 Tryz.underlying22 hinf hz0 hz1 hz2 rfl (by decide) (.slice none 0 0) 0 [] (by rfl) (World.ownsRow_nil _ _ _ _) X.heap.size Ao j _ (strs (O.take j)) (by rfl) (HP.out.drew) (strs_one' _) (by unfold maxLen; omega) (by omega) (hzX) ?_
            intro v7 w7 ho7 hg7 hl7
            rw [Nat.zero_add, List.nil_append] at ho7
            have hb7 : Below X.heap.size X w7 := ((Below.refl _ _).drew).trans ⟨hg7.os, hg7.tape, hg7.output, hg7.size, fun q hq => hg7.block q (by first | exact hq | (simp; omega)) (by simp [Value.ownBlock])⟩
            have hz7 := hb7.size
            have hc7 : w7.cell? (ad.add k) = some (.string s) := (hb7.cell (by rw [block_of_add]; exact hblX)).trans hcX
            refine hK.out _ _ (hc7) (fun hHeld => ?_)
            clear hK K
            try simp only [Act.put, List.setIfInBounds_toArray, List.set_cons_zero, List.set_cons_succ, List.getElem_toArray, List.getElem_cons_succ, List.getElem_cons_zero]
            refine wpAnyH_ready (rs := [8]) (by kernel_rfl) (by simp) (AllReadyH.cons rfl (fun K hK => ?_) (AllReadyH.nil))
            try simp only [List.getElem_toArray, List.getElem_cons_succ, List.getElem_cons_zero]
            go_simp
            refine hK.out _ _ ((World.cell?_alloc_lt _ _ _ (by rw [block_of_add]; omega)).trans hc7) (fun hHeld => ?_)
            clear hK K
            try simp only [Act.put, List.setIfInBounds_toArray, List.set_cons_zero, List.set_cons_succ, List.getElem_toArray, List.getElem_cons_succ, List.getElem_cons_zero]
            refine wpAnyH_ready (rs := [9]) (by kernel_rfl) (by simp) (AllReadyH.cons rfl (fun K hK => ?_) (AllReadyH.nil))
            refine step_append_any (w7.alloc _) rfl (.tmp 48) (.tmp 53) 22 rfl w.heap.size 9 i0 (.string ⟨#[]⟩) 1 16 Tryz.underlying22 hinf hz0 hz1 hz2 rfl (by decide) v7 j (strs (O.take j)) (by rfl) (ho7.alloc _) (w7.heap.size + 1) (some ⟨w7.heap.size, 0, none⟩) 1 1 [.string s] (by rfl) (reads_newV w7 _ _ _ rfl rfl rfl (Nat.lt_succ_self _)) (by simp [Value.oneCell']) (by unfold maxLen; omega) (by omega) (by simp; omega) ?_
            intro v8 w8 ho8 hg8 hl8
            have hb8 : Below X.heap.size X w8 := (hb7.alloc hz7 _).grown hg8 (by simp; omega) (fun q hq => by
              rcases hl7 with e | e
              · rw [e] at hq; simp [Value.ownBlock] at hq
              · rw [e] at hq; injection hq with hq; first | omega | (simp at hq; omega))
            have hz8 := hb8.size
            have hc8 : w8.cell? (ad.add k) = some (.string s) := (hb8.cell (by rw [block_of_add]; exact hblX)).trans hcX
            have hl8' : ∀ q, v8.ownBlock = some q → X.heap.size ≤ q := fun q hq => by
              rcases hl8 with e | e
              · rw [e] at hq
                rcases hl7 with e | e
                · rw [e] at hq; simp [Value.ownBlock] at hq
                · rw [e] at hq; injection hq with hq; first | omega | (simp at hq; omega)
              · rw [e] at hq; injection hq with hq; first | omega | (simp at hq; omega)
            have hrd8 := (HRX.out.cut hj hmc).below hb8
            rw [← strs_drop, Nat.mul_one] at hrd8
            refine hK.out _ _ (hc8) (fun hHeld => ?_)
            clear hK K
            try simp only [Act.put, List.setIfInBounds_toArray, List.set_cons_zero, List.set_cons_succ, List.getElem_toArray, List.getElem_cons_succ, List.getElem_cons_zero]
            refine wpAnyH_ready (rs := [13]) (by kernel_rfl) (by simp) (AllReadyH.cons rfl (fun K hK => ?_) (AllReadyH.nil))
            refine step_append_any w8 rfl (.tmp 54) (.tmp 57) 22 rfl w.heap.size 9 i0 (.string ⟨#[]⟩) 1 16 Tryz.underlying22 hinf hz0 hz1 hz2 rfl (by decide) v8 (j + 1) (strs (O.take j) ++ [.string s]) (by rfl) ho8 X.heap.size _ (m - j) _ (strs (O.drop j)) (by rfl) (by first | exact hrd8 | simpa using hrd8) (strs_one' _) (by unfold maxLen; omega) (by omega) (by omega) ?_
            intro v9 w9 ho9 hg9 hl9
            have hb9 : Below X.heap.size X w9 := hb8.grown hg9 hz8 hl8'
            have hc9 : w9.cell? (ad.add k) = some (.string s) := (hb9.cell (by rw [block_of_add]; exact hblX)).trans hcX
            refine hK.out _ _ (hc9) (fun hHeld => ?_)
            clear hK K
            try simp only [Act.put, List.setIfInBounds_toArray, List.set_cons_zero, List.set_cons_succ, List.getElem_toArray, List.getElem_cons_succ, List.getElem_cons_zero]
            refine wpAnyH_take (i := 14) (v := ?_) rfl (by kernel_rfl) (by kernel_rfl) (by kernel_rfl) (fun _ _ _ h => h) (Or.inl ⟨by rfl, ?_⟩) (by assumption) ?_
            rotate_left
            · intro X9 hSw; (try dsimp only at hSw); (try simp only [List.getElem_toArray, List.getElem_cons_succ, List.getElem_cons_zero]); first | (go_simp; done) | (go_simp; with_reducible rfl)
            try simp only [Act.put, List.setIfInBounds_toArray, List.set_cons_zero, List.set_cons_succ, List.getElem_toArray, List.getElem_cons_succ, List.getElem_cons_zero]
            refine wpAnyH_done (by kernel_rfl) ?_ _
            obtain ⟨A9, c9, rfl, hc99⟩ := own_form ho9
            have HNEW : Hid (w9.ownsRow w.heap.size 9 1 (.slice A9 (j + 1 + (m - j)) c9) (j + 1 + (m - j)) (strs (O.take j ++ [s] ++ O.drop j))) := by
              show World.ownsRow _ _ _ _ _ _ _
              have e : strs (O.take j ++ [s] ++ O.drop j) = strs (O.take j) ++ [.string s] ++ strs (O.drop j) := by simp [strs]
              rw [e]
              exact ho9
            have HB9 : Hid (Below w.heap.size w w9) := HXB.out.trans (hb9.mono hzX)
            have HSTN : Hid (StrictS (O.take j ++ [s] ++ O.drop j)) := strict_insert HST.out HJ.out HLT.out
            have HMN : Hid (∀ x, x ∈ O.take j ++ [s] ++ O.drop j ↔ x ∈ ss.take (k + 1)) := fun x => by
              rw [mem_insertAt, take_snoc HSK.out, List.mem_append, List.mem_singleton, HMEM.out x]
            have HLN : Hid ((O.take j ++ [s] ++ O.drop j).length = j + 1 + (m - j)) := by
              show _ = _
              have := HOL.out
              simp
              omega
            have hle9 : j + 1 + (m - j) ≤ k + 1 := by omega
            clear ho9 hg9 hl9 hb9 hc9 hrd8 ho8 hg8 hl8 hl8' hb8 hc8 ho7 hg7 hl7 hb7 hc7
            go_wp2
            go_roundw
            case rel => exact ⟨k + 1, j + 1 + (m - j), _, A9, c9, hlt, by go_num, rfl, hc99, hle9, HLN.out, HSTN.out, HMN.out, HNEW.out, HB9.out⟩
            case measure => simp [intOf]; omega
          · try simp only [List.getElem_toArray, List.getElem_cons_succ, List.getElem_cons_zero]
            go_simp
            refine hK.out _ _ ((World.cell?_alloc_lt _ _ _ (by rw [block_of_add]; exact hblX)).trans hcX) (fun hHeld => ?_)
            clear hK K
            try simp only [Act.put, List.setIfInBounds_toArray, List.set_cons_zero, List.set_cons_succ, List.getElem_toArray, List.getElem_cons_succ, List.getElem_cons_zero]
            refine wpAnyH_ready (rs := [3]) (by kernel_rfl) (by simp) (AllReadyH.cons rfl (fun K hK => ?_) (AllReadyH.nil))
            refine step_append_any (X.drew.alloc _) rfl (.const (.slice none 0 0)) (.tmp 47) 22 rfl w.heap.size 9 i0 (.string ⟨#[]⟩) 1 16 Tryz.underlying22 hinf hz0 hz1 hz2 rfl (by decide) (.slice none 0 0) 0 [] (by rfl) (World.ownsRow_nil _ _ _ _) X.heap.size Ao j _ (strs (O.take j)) (by rfl) (HP.out.drew.alloc (Nat.le_refl _) _) (strs_one' _) (by unfold maxLen; omega) (by omega) (by simp; omega) ?_
            intro v7 w7 ho7 hg7 hl7
            rw [Nat.zero_add, List.nil_append] at ho7
            have hb7 : Below X.heap.size X w7 := (((Below.refl _ _).drew.alloc (Nat.le_refl _) _)).trans ⟨hg7.os, hg7.tape, hg7.output, hg7.size, fun q hq => hg7.block q (by first | exact hq | (simp; omega)) (by simp [Value.ownBlock])⟩
            have hz7 := hb7.size
            have hc7 : w7.cell? (ad.add k) = some (.string s) := (hb7.cell (by rw [block_of_add]; exact hblX)).trans hcX
            have hn7 : Reads w7 (X.heap.size + 1) 1 (some ⟨X.heap.size, 0, none⟩) 1 [.string s] := (reads_newV X.drew [.string s] 9 #[.string s] rfl rfl rfl (Nat.lt_succ_self _)).grown hg7 (by simp) (by simp [Value.ownBlock])
            refine hK.out _ _ (hc7) (fun hHeld => ?_)
            clear hK K
            try simp only [Act.put, List.setIfInBounds_toArray, List.set_cons_zero, List.set_cons_succ, List.getElem_toArray, List.getElem_cons_succ, List.getElem_cons_zero]
            refine wpAnyH_ready (rs := [9]) (by kernel_rfl) (by simp) (AllReadyH.cons rfl (fun K hK => ?_) (AllReadyH.nil))
            refine step_append_any (w7) rfl (.tmp 48) (.tmp 53) 22 rfl w.heap.size 9 i0 (.string ⟨#[]⟩) 1 16 Tryz.underlying22 hinf hz0 hz1 hz2 rfl (by decide) v7 j (strs (O.take j)) (by rfl) (ho7) (X.heap.size + 1) (some ⟨X.heap.size, 0, none⟩) 1 1 [.string s] (by rfl) (hn7) (by simp [Value.oneCell']) (by unfold maxLen; omega) (by omega) (by omega) ?_
            intro v8 w8 ho8 hg8 hl8
            have hb8 : Below X.heap.size X w8 := (hb7).grown hg8 (hz7) (fun q hq => by
              rcases hl7 with e | e
              · rw [e] at hq; simp [Value.ownBlock] at hq
              · rw [e] at hq; injection hq with hq; first | omega | (simp at hq; omega))
            have hz8 := hb8.size
            have hc8 : w8.cell? (ad.add k) = some (.string s) := (hb8.cell (by rw [block_of_add]; exact hblX)).trans hcX
            have hl8' : ∀ q, v8.ownBlock = some q → X.heap.size ≤ q := fun q hq => by
              rcases hl8 with e | e
              · rw [e] at hq
                rcases hl7 with e | e
                · rw [e] at hq; simp [Value.ownBlock] at hq
                · rw [e] at hq; injection hq with hq; first | omega | (simp at hq; omega)
              · rw [e] at hq; injection hq with hq; first | omega | (simp at hq; omega)
            have hrd8 := (HRX.out.cut hj hmc).below hb8
            rw [← strs_drop, Nat.mul_one] at hrd8
            refine hK.out _ _ (hc8) (fun hHeld => ?_)
            clear hK K
            try simp only [Act.put, List.setIfInBounds_toArray, List.set_cons_zero, List.set_cons_succ, List.getElem_toArray, List.getElem_cons_succ, List.getElem_cons_zero]
            refine wpAnyH_ready (rs := [13]) (by kernel_rfl) (by simp) (AllReadyH.cons rfl (fun K hK => ?_) (AllReadyH.nil))
            refine step_append_any w8 rfl (.tmp 54) (.tmp 57) 22 rfl w.heap.size 9 i0 (.string ⟨#[]⟩) 1 16 Tryz.underlying22 hinf hz0 hz1 hz2 rfl (by decide) v8 (j + 1) (strs (O.take j) ++ [.string s]) (by rfl) ho8 X.heap.size _ (m - j) _ (strs (O.drop j)) (by rfl) (by first | exact hrd8 | simpa using hrd8) (strs_one' _) (by unfold maxLen; omega) (by omega) (by omega) ?_
            intro v9 w9 ho9 hg9 hl9
            have hb9 : Below X.heap.size X w9 := hb8.grown hg9 hz8 hl8'
            have hc9 : w9.cell? (ad.add k) = some (.string s) := (hb9.cell (by rw [block_of_add]; exact hblX)).trans hcX
            refine hK.out _ _ (hc9) (fun hHeld => ?_)
            clear hK K
            try simp only [Act.put, List.setIfInBounds_toArray, List.set_cons_zero, List.set_cons_succ, List.getElem_toArray, List.getElem_cons_succ, List.getElem_cons_zero]
            refine wpAnyH_take (i := 14) (v := ?_) rfl (by kernel_rfl) (by kernel_rfl) (by kernel_rfl) (fun _ _ _ h => h) (Or.inl ⟨by rfl, ?_⟩) (by assumption) ?_
            rotate_left
            · intro X9 hSw; (try dsimp only at hSw); (try simp only [List.getElem_toArray, List.getElem_cons_succ, List.getElem_cons_zero]); first | (go_simp; done) | (go_simp; with_reducible rfl)
            try simp only [Act.put, List.setIfInBounds_toArray, List.set_cons_zero, List.set_cons_succ, List.getElem_toArray, List.getElem_cons_succ, List.getElem_cons_zero]
            refine wpAnyH_done (by kernel_rfl) ?_ _
            obtain ⟨A9, c9, rfl, hc99⟩ := own_form ho9
            have HNEW : Hid (w9.ownsRow w.heap.size 9 1 (.slice A9 (j + 1 + (m - j)) c9) (j + 1 + (m - j)) (strs (O.take j ++ [s] ++ O.drop j))) := by
              show World.ownsRow _ _ _ _ _ _ _
              have e : strs (O.take j ++ [s] ++ O.drop j) = strs (O.take j) ++ [.string s] ++ strs (O.drop j) := by simp [strs]
              rw [e]
              exact ho9
            have HB9 : Hid (Below w.heap.size w w9) := HXB.out.trans (hb9.mono hzX)
            have HSTN : Hid (StrictS (O.take j ++ [s] ++ O.drop j)) := strict_insert HST.out HJ.out HLT.out
            have HMN : Hid (∀ x, x ∈ O.take j ++ [s] ++ O.drop j ↔ x ∈ ss.take (k + 1)) := fun x => by
              rw [mem_insertAt, take_snoc HSK.out, List.mem_append, List.mem_singleton, HMEM.out x]
            have HLN : Hid ((O.take j ++ [s] ++ O.drop j).length = j + 1 + (m - j)) := by
              show _ = _
              have := HOL.out
              simp
              omega
            have hle9 : j + 1 + (m - j) ≤ k + 1 := by omega
            clear ho9 hg9 hl9 hb9 hc9 hrd8 ho8 hg8 hl8 hl8' hb8 hc8 ho7 hg7 hl7 hb7 hc7
            go_wp2
            go_roundw
            case rel => exact ⟨k + 1, j + 1 + (m - j), _, A9, c9, hlt, by go_num, rfl, hc99, hle9, HLN.out, HSTN.out, HMN.out, HNEW.out, HB9.out⟩
            case measure => simp [intOf]; omega
        · obtain ⟨a, HA9⟩ : ∃ a, Hid (O[j]? = some a) := ⟨O[j]'(by have := HOL.out; omega), List.getElem?_eq_getElem (by have := HOL.out; omega)⟩
          obtain ⟨ad', u, hAo, _, hu, hcu⟩ := HRO6.out.at_ hjm
          have huu : u = .string a := by
            unfold strs at hu
            rw [List.getElem?_map, HA9.out] at hu
            injection hu with hu
            exact hu.symm
          subst huu hAo
          have hca : wr.cell? (ad'.add j) = some (.string a) := hcu
          have has : a.size ≤ 9223372036854775807 := by
            have h1 := (HMEM.out a).1 (List.mem_of_getElem? HA9.out)
            exact HS.out a (List.mem_of_mem_take h1)
          obtain ⟨cv, HCV⟩ : ∃ cv, Hid (cmpS a s = cv) := ⟨_, rfl⟩
          have V : Hid (∀ W, Calls Tryz.prog 16 #[.string a, .string s] W fun e w' => e = .returned (.int .i64 cv) ∧ ∃ q, w' = W.drewN q) := fun W => by
            rw [← HCV.out]
            exact rcompare_any a s has hss W
          have b2 : (j : Int) < (m : Int) := by omega
          clear hu hcu
          by_cases hneg : cv < 0
          · have HL := Lib.hid ((cmp_neg a s).1 (by rw [HCV.out]; exact hneg))
            go_wp2
            go_quiet (first | (go_at_call 16; exact Calls.quiet_of (V.out _)))
            go_wp2
            go_roundw
            case rel => exact ⟨j + 1, hjm, by go_num, strict_take HA9.out HJ.out HL.out, by rw [HW.out, World.drewN_drewN]; exact ⟨_, rfl⟩⟩
            case measure => simp [intOf]; omega
          · have hneg' : decide (cv < 0) = false := decide_eq_false hneg
            have hge : ¬ a.data.toList < s.data.toList := fun h => hneg (by rw [← HCV.out]; exact (cmp_neg a s).2 h)
            have HGE := Lib.hid hge
            clear hneg hge
            go_wp2
            go_quiet (first | (go_at_call 16; exact Calls.quiet_of (V.out _)))
            go_wp2
            by_cases heq : a = s
            · subst heq
              have hq1 : (a.toList == a.toList) = true := by simp
              go_quiet (fail)
              go_wp2
              go_roundw
              case rel =>
                refine ⟨k + 1, m, O, _, co, hlt, by go_num, rfl, hmc, by omega, HOL.out, HST.out, fun x => ?_, HO6.out, by first | exact drewN_below HB6.out _ | exact drewN_below (drewN_below HB6.out _) _⟩
                rw [take_snoc HSK.out, List.mem_append, List.mem_singleton]
                constructor
                · intro hx; exact .inl ((HMEM.out x).1 hx)
                · rintro (hx | rfl)
                  · exact (HMEM.out x).2 hx
                  · exact List.mem_of_getElem? HA9.out
              case measure => simp [intOf]; omega
            · have hq1 : (a.toList == s.toList) = false := by
                rw [beq_eq_false_iff_ne]
                exact fun e => heq (toList_inj e)
              have HLT : Hid (∀ b, O[j]? = some b → s.data.toList < b.data.toList) := fun b h => by
                rw [HA9.out] at h
                injection h with h
                subst h
                have h1 := HGE.out
                rcases cmp_cases a s with ⟨h, _⟩ | ⟨h, h2⟩ | ⟨h, _⟩
                · exact absurd ((cmp_neg a s).1 (by omega)) h1
                · rw [toList_data, toList_data] at h2; exact h2
                · exact absurd ((cmp_zero a s).1 h) heq
              clear heq
              go_quiet (fail)
              go_wp2
              rename_i nq1
              have hX0 : (wr.drewN nq1).drewN nq = (wr.drewN nq1).drewN nq := rfl
              generalize hX : (wr.drewN nq1).drewN nq = X at hX0 ⊢
              clear hX0
              have HXO : Hid (X.ownsRow w.heap.size 9 1 (.slice (some ad') m co) m (strs O)) := by show World.ownsRow _ _ _ _ _ _ _; rw [← hX]; exact HO6.out
              have HXB : Hid (Below w.heap.size w X) := by show Below _ _ _; rw [← hX]; exact drewN_below (drewN_below HB6.out _) _
              have hcX : X.cell? (ad.add k) = some (.string s) := by rw [← hX]; exact hcs
              have hblX : ad.block < X.heap.size := by rw [← hX, HW.out]; exact hbl2
              have hzX : w.heap.size ≤ X.heap.size := HXB.out.size
              have HRX : Hid (Reads X X.heap.size 1 (some ad') m (strs O)) := Reads.of_own HXO.out
              have HP : Hid (Reads X X.heap.size 1 (some ad') j (strs (O.take j))) := reads_part HRX.out hj
              have hjm9 : j ≤ 1000000 := by omega
              have hm9 : m ≤ 1000000 := by omega
              have hjc : j ≤ co := by omega
              have hXd : X.drew.heap.size = X.heap.size := rfl
              clear hX hcs
              refine wp_region_held_drew (S := fun X9 => X9.cell? (ad.add k) = some (.string s)) (by kernel_rfl) (show (X.drew).cell? _ = _ from hcX) (fun hHeld => ?_)
              refine wpAnyH_take (i := 0) (v := ?_) rfl (by kernel_rfl) (by kernel_rfl) (by kernel_rfl) (fun _ _ _ h => h) (Or.inl ⟨by rfl, ?_⟩) (by assumption) ?_
              rotate_left
              · intro X9 hSw; (try dsimp only at hSw); (try simp only [List.getElem_toArray, List.getElem_cons_zero]); first | (go_simp; done) | (go_simp; with_reducible rfl)
              try simp only [Act.put, List.setIfInBounds_toArray, List.set_cons_zero, List.set_cons_succ, List.getElem_toArray, List.getElem_cons_zero]
              refine wpAnyH_take (i := 1) (v := ?_) rfl (by kernel_rfl) (by kernel_rfl) (by kernel_rfl) (fun _ _ _ h => h) (Or.inl ⟨by rfl, ?_⟩) (by assumption) ?_
              rotate_left
              · intro X9 hSw; (try dsimp only at hSw); (try simp only [List.getElem_toArray, List.getElem_cons_succ, List.getElem_cons_zero]); first | (go_simp; done) | (go_simp; with_reducible rfl)
              try simp only [Act.put, List.setIfInBounds_toArray, List.set_cons_zero, List.set_cons_succ, List.getElem_toArray, List.getElem_cons_succ, List.getElem_cons_zero]
              refine wpAnyH_take (i := 2) (v := ?_) rfl (by kernel_rfl) (by kernel_rfl) (by kernel_rfl) (fun _ _ _ h => h) (Or.inl ⟨by rfl, ?_⟩) (by assumption) ?_
              rotate_left
              · intro X9 hSw; (try dsimp only at hSw); (try simp only [List.getElem_toArray, List.getElem_cons_succ, List.getElem_cons_zero]); first | (go_simp; done) | (go_simp; with_reducible rfl)
              try simp only [Act.put, List.setIfInBounds_toArray, List.set_cons_zero, List.set_cons_succ, List.getElem_toArray, List.getElem_cons_succ, List.getElem_cons_zero]
              refine wpAnyH_take (i := 4) (v := ?_) rfl (by kernel_rfl) (by kernel_rfl) (by kernel_rfl) (fun _ _ _ h => h) (Or.inl ⟨by rfl, ?_⟩) (by assumption) ?_
              rotate_left
              · intro X9 hSw; (try dsimp only at hSw); (try simp only [List.getElem_toArray, List.getElem_cons_succ, List.getElem_cons_zero]); first | (go_simp; done) | (go_simp; with_reducible rfl)
              try simp only [Act.put, List.setIfInBounds_toArray, List.set_cons_zero, List.set_cons_succ, List.getElem_toArray, List.getElem_cons_succ, List.getElem_cons_zero]
              refine wpAnyH_take (i := 5) (v := ?_) rfl (by kernel_rfl) (by kernel_rfl) (by kernel_rfl) (fun _ _ _ h => h) (Or.inl ⟨by rfl, ?_⟩) (by assumption) ?_
              rotate_left
              · intro X9 hSw; (try dsimp only at hSw); (try simp only [List.getElem_toArray, List.getElem_cons_succ, List.getElem_cons_zero]); first | (go_simp; done) | (go_simp; with_reducible rfl)
              try simp only [Act.put, List.setIfInBounds_toArray, List.set_cons_zero, List.set_cons_succ, List.getElem_toArray, List.getElem_cons_succ, List.getElem_cons_zero]
              refine wpAnyH_take (i := 6) (v := ?_) rfl (by kernel_rfl) (by kernel_rfl) (by kernel_rfl) (fun _ _ _ h => h) (Or.inl ⟨by rfl, ?_⟩) (by assumption) ?_
              rotate_left
              · intro X9 hSw; (try dsimp only at hSw); (try simp only [List.getElem_toArray, List.getElem_cons_succ, List.getElem_cons_zero]); first | (go_simp; done) | (go_simp; with_reducible rfl)
              try simp only [Act.put, List.setIfInBounds_toArray, List.set_cons_zero, List.set_cons_succ, List.getElem_toArray, List.getElem_cons_succ, List.getElem_cons_zero]
              refine wpAnyH_take (i := 7) (v := ?_) rfl (by kernel_rfl) (by kernel_rfl) (by kernel_rfl) (fun _ _ _ h => h) (Or.inl ⟨by rfl, ?_⟩) (by assumption) ?_
              rotate_left
              · intro X9 hSw; (try dsimp only at hSw); (try simp only [List.getElem_toArray, List.getElem_cons_succ, List.getElem_cons_zero]); first | (go_simp; done) | (go_simp; with_reducible rfl)
              try simp only [Act.put, List.setIfInBounds_toArray, List.set_cons_zero, List.set_cons_succ, List.getElem_toArray, List.getElem_cons_succ, List.getElem_cons_zero]
              refine wpAnyH_take (i := 10) (v := ?_) rfl (by kernel_rfl) (by kernel_rfl) (by kernel_rfl) (fun _ _ _ h => h) (Or.inl ⟨by rfl, ?_⟩) (by assumption) ?_
              rotate_left
              · intro X9 hSw; (try dsimp only at hSw); (try simp only [List.getElem_toArray, List.getElem_cons_succ, List.getElem_cons_zero]); first | (go_simp; done) | (go_simp; with_reducible rfl)
              try simp only [Act.put, List.setIfInBounds_toArray, List.set_cons_zero, List.set_cons_succ, List.getElem_toArray, List.getElem_cons_succ, List.getElem_cons_zero]
              refine wpAnyH_take (i := 11) (v := ?_) rfl (by kernel_rfl) (by kernel_rfl) (by kernel_rfl) (fun _ _ _ h => h) (Or.inl ⟨by rfl, ?_⟩) (by assumption) ?_
              rotate_left
              · intro X9 hSw; (try dsimp only at hSw); (try simp only [List.getElem_toArray, List.getElem_cons_succ, List.getElem_cons_zero]); first | (go_simp; done) | (go_simp; with_reducible rfl)
              try simp only [Act.put, List.setIfInBounds_toArray, List.set_cons_zero, List.set_cons_succ, List.getElem_toArray, List.getElem_cons_succ, List.getElem_cons_zero]
              refine wpAnyH_take (i := 12) (v := ?_) rfl (by kernel_rfl) (by kernel_rfl) (by kernel_rfl) (fun _ _ _ h => h) (Or.inl ⟨by rfl, ?_⟩) (by assumption) ?_
              rotate_left
              · intro X9 hSw; (try dsimp only at hSw); (try simp only [List.getElem_toArray, List.getElem_cons_succ, List.getElem_cons_zero]); first | (go_simp; done) | (go_simp; with_reducible rfl)
              try simp only [Act.put, List.setIfInBounds_toArray, List.set_cons_zero, List.set_cons_succ, List.getElem_toArray, List.getElem_cons_succ, List.getElem_cons_zero]
              refine wpAnyH_ready (rs := [3, 8]) (by kernel_rfl) (by simp) (AllReadyH.cons rfl (fun K hK => ?_) (AllReadyH.cons rfl (fun K hK => ?_) (AllReadyH.nil)))
              · refine step_append_any (X.drew) rfl (.const (.slice none 0 0)) (.tmp 47) 22 rfl w.heap.size 9 i0 (.string ⟨#[]⟩) 1 16 Tryz.underlying22 hinf hz0 hz1 hz2 rfl (by decide) (.slice none 0 0) 0 [] (by rfl) (World.ownsRow_nil _ _ _ _) X.heap.size (some ad') j _ (strs (O.take j)) (by rfl) (HP.out.drew) (strs_one' _) (by unfold maxLen; omega) (by omega) (hzX) ?_
                intro v7 w7 ho7 hg7 hl7
                rw [Nat.zero_add, List.nil_append] at ho7
                have hb7 : Below X.heap.size X w7 := ((Below.refl _ _).drew).trans ⟨hg7.os, hg7.tape, hg7.output, hg7.size, fun q hq => hg7.block q (by first | exact hq | (simp; omega)) (by simp [Value.ownBlock])⟩
                have hz7 := hb7.size
                have hc7 : w7.cell? (ad.add k) = some (.string s) := (hb7.cell (by rw [block_of_add]; exact hblX)).trans hcX
                refine hK.out _ _ (hc7) (fun hHeld => ?_)
                clear hK K
                try simp only [Act.put, List.setIfInBounds_toArray, List.set_cons_zero, List.set_cons_succ, List.getElem_toArray, List.getElem_cons_succ, List.getElem_cons_zero]
                refine wpAnyH_ready (rs := [8]) (by kernel_rfl) (by simp) (AllReadyH.cons rfl (fun K hK => ?_) (AllReadyH.nil))
                try simp only [List.getElem_toArray, List.getElem_cons_succ, List.getElem_cons_zero]
                go_simp
                refine hK.out _ _ ((World.cell?_alloc_lt _ _ _ (by rw [block_of_add]; omega)).trans hc7) (fun hHeld => ?_)
                clear hK K
                try simp only [Act.put, List.setIfInBounds_toArray, List.set_cons_zero, List.set_cons_succ, List.getElem_toArray, List.getElem_cons_succ, List.getElem_cons_zero]
                refine wpAnyH_ready (rs := [9]) (by kernel_rfl) (by simp) (AllReadyH.cons rfl (fun K hK => ?_) (AllReadyH.nil))
                refine step_append_any (w7.alloc _) rfl (.tmp 48) (.tmp 53) 22 rfl w.heap.size 9 i0 (.string ⟨#[]⟩) 1 16 Tryz.underlying22 hinf hz0 hz1 hz2 rfl (by decide) v7 j (strs (O.take j)) (by rfl) (ho7.alloc _) (w7.heap.size + 1) (some ⟨w7.heap.size, 0, none⟩) 1 1 [.string s] (by rfl) (reads_newV w7 _ _ _ rfl rfl rfl (Nat.lt_succ_self _)) (by simp [Value.oneCell']) (by unfold maxLen; omega) (by omega) (by simp; omega) ?_
                intro v8 w8 ho8 hg8 hl8
                have hb8 : Below X.heap.size X w8 := (hb7.alloc hz7 _).grown hg8 (by simp; omega) (fun q hq => by
                  rcases hl7 with e | e
                  · rw [e] at hq; simp [Value.ownBlock] at hq
                  · rw [e] at hq; injection hq with hq; first | omega | (simp at hq; omega))
                have hz8 := hb8.size
                have hc8 : w8.cell? (ad.add k) = some (.string s) := (hb8.cell (by rw [block_of_add]; exact hblX)).trans hcX
                have hl8' : ∀ q, v8.ownBlock = some q → X.heap.size ≤ q := fun q hq => by
                  rcases hl8 with e | e
                  · rw [e] at hq
                    rcases hl7 with e | e
                    · rw [e] at hq; simp [Value.ownBlock] at hq
                    · rw [e] at hq; injection hq with hq; first | omega | (simp at hq; omega)
                  · rw [e] at hq; injection hq with hq; first | omega | (simp at hq; omega)
                have hrd8 := (HRX.out.cut hj hmc).below hb8
                rw [← strs_drop, Nat.mul_one] at hrd8
                refine hK.out _ _ (hc8) (fun hHeld => ?_)
                clear hK K
                try simp only [Act.put, List.setIfInBounds_toArray, List.set_cons_zero, List.set_cons_succ, List.getElem_toArray, List.getElem_cons_succ, List.getElem_cons_zero]
                refine wpAnyH_ready (rs := [13]) (by kernel_rfl) (by simp) (AllReadyH.cons rfl (fun K hK => ?_) (AllReadyH.nil))
                refine step_append_any w8 rfl (.tmp 54) (.tmp 57) 22 rfl w.heap.size 9 i0 (.string ⟨#[]⟩) 1 16 Tryz.underlying22 hinf hz0 hz1 hz2 rfl (by decide) v8 (j + 1) (strs (O.take j) ++ [.string s]) (by rfl) ho8 X.heap.size _ (m - j) _ (strs (O.drop j)) (by rfl) (by first | exact hrd8 | simpa using hrd8) (strs_one' _) (by unfold maxLen; omega) (by omega) (by omega) ?_
                intro v9 w9 ho9 hg9 hl9
                have hb9 : Below X.heap.size X w9 := hb8.grown hg9 hz8 hl8'
                have hc9 : w9.cell? (ad.add k) = some (.string s) := (hb9.cell (by rw [block_of_add]; exact hblX)).trans hcX
                refine hK.out _ _ (hc9) (fun hHeld => ?_)
                clear hK K
                try simp only [Act.put, List.setIfInBounds_toArray, List.set_cons_zero, List.set_cons_succ, List.getElem_toArray, List.getElem_cons_succ, List.getElem_cons_zero]
                refine wpAnyH_take (i := 14) (v := ?_) rfl (by kernel_rfl) (by kernel_rfl) (by kernel_rfl) (fun _ _ _ h => h) (Or.inl ⟨by rfl, ?_⟩) (by assumption) ?_
                rotate_left
                · intro X9 hSw; (try dsimp only at hSw); (try simp only [List.getElem_toArray, List.getElem_cons_succ, List.getElem_cons_zero]); first | (go_simp; done) | (go_simp; with_reducible rfl)
                try simp only [Act.put, List.setIfInBounds_toArray, List.set_cons_zero, List.set_cons_succ, List.getElem_toArray, List.getElem_cons_succ, List.getElem_cons_zero]
                refine wpAnyH_done (by kernel_rfl) ?_ _
                obtain ⟨A9, c9, rfl, hc99⟩ := own_form ho9
                have HNEW : Hid (w9.ownsRow w.heap.size 9 1 (.slice A9 (j + 1 + (m - j)) c9) (j + 1 + (m - j)) (strs (O.take j ++ [s] ++ O.drop j))) := by
                  show World.ownsRow _ _ _ _ _ _ _
                  have e : strs (O.take j ++ [s] ++ O.drop j) = strs (O.take j) ++ [.string s] ++ strs (O.drop j) := by simp [strs]
                  rw [e]
                  exact ho9
                have HB9 : Hid (Below w.heap.size w w9) := HXB.out.trans (hb9.mono hzX)
                have HSTN : Hid (StrictS (O.take j ++ [s] ++ O.drop j)) := strict_insert HST.out HJ.out HLT.out
                have HMN : Hid (∀ x, x ∈ O.take j ++ [s] ++ O.drop j ↔ x ∈ ss.take (k + 1)) := fun x => by
                  rw [mem_insertAt, take_snoc HSK.out, List.mem_append, List.mem_singleton, HMEM.out x]
                have HLN : Hid ((O.take j ++ [s] ++ O.drop j).length = j + 1 + (m - j)) := by
                  show _ = _
                  have := HOL.out
                  simp
                  omega
                have hle9 : j + 1 + (m - j) ≤ k + 1 := by omega
                clear ho9 hg9 hl9 hb9 hc9 hrd8 ho8 hg8 hl8 hl8' hb8 hc8 ho7 hg7 hl7 hb7 hc7
                go_wp2
                go_roundw
                case rel => exact ⟨k + 1, j + 1 + (m - j), _, A9, c9, hlt, by go_num, rfl, hc99, hle9, HLN.out, HSTN.out, HMN.out, HNEW.out, HB9.out⟩
                case measure => simp [intOf]; omega
              · try simp only [List.getElem_toArray, List.getElem_cons_succ, List.getElem_cons_zero]
                go_simp
                refine hK.out _ _ ((World.cell?_alloc_lt _ _ _ (by rw [block_of_add]; exact hblX)).trans hcX) (fun hHeld => ?_)
                clear hK K
                try simp only [Act.put, List.setIfInBounds_toArray, List.set_cons_zero, List.set_cons_succ, List.getElem_toArray, List.getElem_cons_succ, List.getElem_cons_zero]
                refine wpAnyH_ready (rs := [3]) (by kernel_rfl) (by simp) (AllReadyH.cons rfl (fun K hK => ?_) (AllReadyH.nil))
                refine step_append_any (X.drew.alloc _) rfl (.const (.slice none 0 0)) (.tmp 47) 22 rfl w.heap.size 9 i0 (.string ⟨#[]⟩) 1 16 Tryz.underlying22 hinf hz0 hz1 hz2 rfl (by decide) (.slice none 0 0) 0 [] (by rfl) (World.ownsRow_nil _ _ _ _) X.heap.size (some ad') j _ (strs (O.take j)) (by rfl) (HP.out.drew.alloc (Nat.le_refl _) _) (strs_one' _) (by unfold maxLen; omega) (by omega) (by simp; omega) ?_
                intro v7 w7 ho7 hg7 hl7
                rw [Nat.zero_add, List.nil_append] at ho7
                have hb7 : Below X.heap.size X w7 := (((Below.refl _ _).drew.alloc (Nat.le_refl _) _)).trans ⟨hg7.os, hg7.tape, hg7.output, hg7.size, fun q hq => hg7.block q (by first | exact hq | (simp; omega)) (by simp [Value.ownBlock])⟩
                have hz7 := hb7.size
                have hc7 : w7.cell? (ad.add k) = some (.string s) := (hb7.cell (by rw [block_of_add]; exact hblX)).trans hcX
                have hn7 : Reads w7 (X.heap.size + 1) 1 (some ⟨X.heap.size, 0, none⟩) 1 [.string s] := (reads_newV X.drew [.string s] 9 #[.string s] rfl rfl rfl (Nat.lt_succ_self _)).grown hg7 (by simp) (by simp [Value.ownBlock])
                refine hK.out _ _ (hc7) (fun hHeld => ?_)
                clear hK K
                try simp only [Act.put, List.setIfInBounds_toArray, List.set_cons_zero, List.set_cons_succ, List.getElem_toArray, List.getElem_cons_succ, List.getElem_cons_zero]
                refine wpAnyH_ready (rs := [9]) (by kernel_rfl) (by simp) (AllReadyH.cons rfl (fun K hK => ?_) (AllReadyH.nil))
                refine step_append_any (w7) rfl (.tmp 48) (.tmp 53) 22 rfl w.heap.size 9 i0 (.string ⟨#[]⟩) 1 16 Tryz.underlying22 hinf hz0 hz1 hz2 rfl (by decide) v7 j (strs (O.take j)) (by rfl) (ho7) (X.heap.size + 1) (some ⟨X.heap.size, 0, none⟩) 1 1 [.string s] (by rfl) (hn7) (by simp [Value.oneCell']) (by unfold maxLen; omega) (by omega) (by omega) ?_
                intro v8 w8 ho8 hg8 hl8
                have hb8 : Below X.heap.size X w8 := (hb7).grown hg8 (hz7) (fun q hq => by
                  rcases hl7 with e | e
                  · rw [e] at hq; simp [Value.ownBlock] at hq
                  · rw [e] at hq; injection hq with hq; first | omega | (simp at hq; omega))
                have hz8 := hb8.size
                have hc8 : w8.cell? (ad.add k) = some (.string s) := (hb8.cell (by rw [block_of_add]; exact hblX)).trans hcX
                have hl8' : ∀ q, v8.ownBlock = some q → X.heap.size ≤ q := fun q hq => by
                  rcases hl8 with e | e
                  · rw [e] at hq
                    rcases hl7 with e | e
                    · rw [e] at hq; simp [Value.ownBlock] at hq
                    · rw [e] at hq; injection hq with hq; first | omega | (simp at hq; omega)
                  · rw [e] at hq; injection hq with hq; first | omega | (simp at hq; omega)
                have hrd8 := (HRX.out.cut hj hmc).below hb8
                rw [← strs_drop, Nat.mul_one] at hrd8
                refine hK.out _ _ (hc8) (fun hHeld => ?_)
                clear hK K
                try simp only [Act.put, List.setIfInBounds_toArray, List.set_cons_zero, List.set_cons_succ, List.getElem_toArray, List.getElem_cons_succ, List.getElem_cons_zero]
                refine wpAnyH_ready (rs := [13]) (by kernel_rfl) (by simp) (AllReadyH.cons rfl (fun K hK => ?_) (AllReadyH.nil))
                refine step_append_any w8 rfl (.tmp 54) (.tmp 57) 22 rfl w.heap.size 9 i0 (.string ⟨#[]⟩) 1 16 Tryz.underlying22 hinf hz0 hz1 hz2 rfl (by decide) v8 (j + 1) (strs (O.take j) ++ [.string s]) (by rfl) ho8 X.heap.size _ (m - j) _ (strs (O.drop j)) (by rfl) (by first | exact hrd8 | simpa using hrd8) (strs_one' _) (by unfold maxLen; omega) (by omega) (by omega) ?_
                intro v9 w9 ho9 hg9 hl9
                have hb9 : Below X.heap.size X w9 := hb8.grown hg9 hz8 hl8'
                have hc9 : w9.cell? (ad.add k) = some (.string s) := (hb9.cell (by rw [block_of_add]; exact hblX)).trans hcX
                refine hK.out _ _ (hc9) (fun hHeld => ?_)
                clear hK K
                try simp only [Act.put, List.setIfInBounds_toArray, List.set_cons_zero, List.set_cons_succ, List.getElem_toArray, List.getElem_cons_succ, List.getElem_cons_zero]
                refine wpAnyH_take (i := 14) (v := ?_) rfl (by kernel_rfl) (by kernel_rfl) (by kernel_rfl) (fun _ _ _ h => h) (Or.inl ⟨by rfl, ?_⟩) (by assumption) ?_
                rotate_left
                · intro X9 hSw; (try dsimp only at hSw); (try simp only [List.getElem_toArray, List.getElem_cons_succ, List.getElem_cons_zero]); first | (go_simp; done) | (go_simp; with_reducible rfl)
                try simp only [Act.put, List.setIfInBounds_toArray, List.set_cons_zero, List.set_cons_succ, List.getElem_toArray, List.getElem_cons_succ, List.getElem_cons_zero]
                refine wpAnyH_done (by kernel_rfl) ?_ _
                obtain ⟨A9, c9, rfl, hc99⟩ := own_form ho9
                have HNEW : Hid (w9.ownsRow w.heap.size 9 1 (.slice A9 (j + 1 + (m - j)) c9) (j + 1 + (m - j)) (strs (O.take j ++ [s] ++ O.drop j))) := by
                  show World.ownsRow _ _ _ _ _ _ _
                  have e : strs (O.take j ++ [s] ++ O.drop j) = strs (O.take j) ++ [.string s] ++ strs (O.drop j) := by simp [strs]
                  rw [e]
                  exact ho9
                have HB9 : Hid (Below w.heap.size w w9) := HXB.out.trans (hb9.mono hzX)
                have HSTN : Hid (StrictS (O.take j ++ [s] ++ O.drop j)) := strict_insert HST.out HJ.out HLT.out
                have HMN : Hid (∀ x, x ∈ O.take j ++ [s] ++ O.drop j ↔ x ∈ ss.take (k + 1)) := fun x => by
                  rw [mem_insertAt, take_snoc HSK.out, List.mem_append, List.mem_singleton, HMEM.out x]
                have HLN : Hid ((O.take j ++ [s] ++ O.drop j).length = j + 1 + (m - j)) := by
                  show _ = _
                  have := HOL.out
                  simp
                  omega
                have hle9 : j + 1 + (m - j) ≤ k + 1 := by omega
                clear ho9 hg9 hl9 hb9 hc9 hrd8 ho8 hg8 hl8 hl8' hb8 hc8 ho7 hg7 hl7 hb7 hc7
                go_wp2
                go_roundw
                case rel => exact ⟨k + 1, j + 1 + (m - j), _, A9, c9, hlt, by go_num, rfl, hc99, hle9, HLN.out, HSTN.out, HMN.out, HNEW.out, HB9.out⟩
                case measure => simp [intOf]; omega
    · have hkn : k = n := by omega
      have hO : O = srt ss := by
        refine srt_is HST.out fun s => ?_
        rw [HMEM.out s, List.take_of_length_le (by have := HN.out; omega)]
      have hm2 : m = (srt ss).length := by rw [← HOL.out, hO]
      have HO2 := HO.out
      rw [hO] at HO2
      have HO3 := Lib.hid HO2
      clear HO2 hO
      go_wp2
      go_ret
      subst hm2
      exact ⟨Ao, co, rfl, HO3.out, HB.out⟩
end Go.Proofs.YtlniafpbkhkkaaaGreat
