/-
  Package wal: Commit as a contract.
  Conditions: disks and logs that the call has made; records of at most 5 * 10^7 bytes together.
-/
import Derived.Test.YtfmbadinfhpihaaGreatWal8
import Derived.Deep.RegionHeld3
set_option linter.unusedVariables false
set_option linter.unusedSimpArgs false
namespace Go.Proofs.YtfmbadinfhpihaaGreat
open Go.RowKit Go.Maps
set_option maxRecDepth 100000
attribute [local go_sem ↓] Go.wp_at_zero Go.wp_at_succ

def commitR (nm : ByteArray) (lg : Lg) (st : Dk) (ss : List ByteArray) : Int × Lg × Dk :=
  if lg.broken = true then (14, lg, st) else if longB ss = true then (2, lg, st) else if ss.length = 0 then (0, lg, st)
  else if (firstD (commitD nm (groupB ss)) st).1 = 0 then (0, ⟨lg.recs ++ ss, lg.groups + 1, lg.size + (groupB ss).size, false⟩, (firstD (commitD nm (groupB ss)) st).2)
  else ((firstD (commitD nm (groupB ss)) st).1, ⟨lg.recs, lg.groups, lg.size, true⟩, (firstD (commitD nm (groupB ss)) st).2)
def CommitPost (g c b : Nat) (T : List Nat) (nm : ByteArray) (w : World) (r : Int × Lg × Dk) (e : Ending) (w' : World) : Prop :=
  ∃ T', e = .returned (.int .i64 r.1) ∧ LogAt g c T' nm r.2.1 w' ∧ DkAt c b r.2.2 w' ∧ Mv (c :: b :: T) (c :: b :: T') w w'
theorem mv_apart {T T' : List Nat} {w w' : World} (hm : Mv T T' w w') {k i : Nat} {v : Value} (hk : k ∉ T) (h : w.cell? ⟨k, i, none⟩ = some v) : w'.cell? ⟨k, i, none⟩ = some v := by
  have hlt : k < w.heap.size := by
    rcases Nat.lt_or_ge k w.heap.size with hlt | hge
    · exact hlt
    · unfold World.cell? at h
      rw [Array.getElem?_eq_none hge] at h
      simp at h
  exact (World.cell?_of_block (a := ⟨k, i, none⟩) (hm.block k hlt hk)).trans h
/-- A record more behind a log's, the row grown. -/
theorem LogAt.more {g c : Nat} {nm : ByteArray} {w : World} {v0 v : Value} {rs : List ByteArray} {n gr sz : Nat} {br : Bool} (hn : rs.length = n)
    (hbk : w.heap[g]? = some (.cells #[.pointer (some ⟨c, 0, none⟩), .string nm, v0, .int .i64 gr, .int .i64 sz, .bool br] 27 (0, 0)))
    (ho : w.ownsRow 0 9 1 v n (strs rs)) (hne : v.ownBlock ≠ some g) :
    LogAt g c (g :: v.ownBlock.toList) nm ⟨rs, gr, sz, br⟩ (w.setCell ⟨g, 2, none⟩ v) := by
  subst hn
  exact ⟨v, rfl, Blk.set_ (show Blk w g 27 _ from hbk) 2 _, Wi.ownsRow_keep ho (fun k h => Below.heap_setCell _ _ _ _ (fun e => hne (by rw [h, e]))), hne⟩
theorem Reads.mv {T T' : List Nat} {w w' : World} {B size n : Nat} {A : Option Addr} {xs : List Value} (h : Reads w B size A n xs) (hm : Mv T T' w w') (hB : B ≤ w.heap.size) (ha : 0 < n → ∀ ad, A = some ad → ad.block ∉ T) : Reads w' B size A n xs :=
  ⟨h.1, fun hn => by
    obtain ⟨ad, e, hb, hc⟩ := h.2 hn
    exact ⟨ad, e, hb, fun j u hu => (World.cell?_of_block (hm.block (ad.add j).block (by rw [block_of_add]; omega) (by rw [block_of_add]; exact ha hn ad e))).trans (hc j u hu)⟩⟩
theorem Mv.cons2 {T T' : List Nat} {w w' : World} (c b : Nat) (h : Mv T T' w w') : Mv (c :: b :: T) (c :: b :: T') w w' :=
  ⟨h.os, h.tape, h.output, h.size, fun k hk hn => h.block k hk (fun e => hn (by simp [e])), fun k hk => by
    simp only [List.mem_cons] at hk ⊢
    rcases hk with rfl | rfl | hk
    · exact .inl (.inl rfl)
    · exact .inl (.inr (.inl rfl))
    · exact (h.link k hk).imp (fun e => .inr (.inr e)) id⟩
theorem strs_snoc (ss : List ByteArray) (s : ByteArray) : strs (ss ++ [s]) = strs ss ++ [.string s] := by simp [strs]
set_option maxHeartbeats 8000000 in
theorem commit_any (g c b : Nat) (T : List Nat) (nm : ByteArray) (lg : Lg) (st : Dk) (hok : st.Ok) (ss : List ByteArray) (A : Option Addr) (cp : Nat) (w : World) (h : LogAt g c T nm lg w) (hd : DkAt c b st w)
    (hT : ∀ k, k ∈ T → k ≠ c ∧ k ≠ b) (hr : Reads w w.heap.size 1 A ss.length (strs ss)) (hA : 0 < ss.length → ∀ ad, A = some ad → ad.block ∉ T ∧ ad.block ≠ c ∧ ad.block ≠ b)
    (hn : nm.size ≤ 1000000) (htot : total ss ≤ 50000000) (hL : ss.length ≤ 1000000) (hs : ∀ s ∈ ss, s.size ≤ 9223372036854775807) (hrl : lg.recs.length ≤ 1000000) (hgl : lg.groups ≤ 1000000000) (hzl : lg.size ≤ 1000000000) :
    Calls Tryz.prog 11 #[.pointer (some ⟨g, 0, none⟩), .slice A ss.length cp] w (CommitPost g c b T nm w (commitR nm lg st ss)) := by
  obtain ⟨i0, hinf, hz0, hz1, hz2⟩ := info_parts info_string
  have hg := h.lt
  have hlc := hd.lt
  have hlb := hd.ltb
  have hgT := h.own
  have hgn := hT g hgT
  have HTW0 := Lib.hid h.there
  obtain ⟨W1, hW1⟩ : ∃ W, w.alloc (.cells #[.pointer (some ⟨g, 0, none⟩)] 24) = W := ⟨_, rfl⟩
  have z1 : W1.heap.size = w.heap.size + 1 := by rw [← hW1]; simp
  have h1 : LogAt g c T nm lg W1 := by rw [← hW1]; exact h.alloc _
  have hd1 : DkAt c b st W1 := by rw [← hW1]; exact hd.alloc _
  have hr1 : Reads W1 w.heap.size 1 A ss.length (strs ss) := by rw [← hW1]; exact hr.alloc (Nat.le_refl _) _
  have p1 : W1.cell? ⟨w.heap.size, 0, none⟩ = some (.pointer (some ⟨g, 0, none⟩)) := by rw [← hW1]; exact cell_new1 _ _ _
  have hm1 : Mv (c :: b :: T) (c :: b :: T) w W1 := by rw [← hW1]; exact (Mv.refl _ _).alloc _
  have e5 := h1.cell5
  have qn := none_any g c T nm lg W1 h1
  have ql := long_any ss A cp W1 (hr1.more (by omega)) hL hs
  have qg := group_any ss A cp W1 (hr1.more (by omega)) htot hL
  have hgl' := group_len ss
  obtain ⟨rs, gr, sz, br⟩ := lg
  obtain ⟨n, hnn⟩ : ∃ n, ss.length = n := ⟨_, rfl⟩
  unfold commitR
  rw [hnn] at hr hA hL hr1 ql qg hgl' ⊢
  obtain ⟨lb, hlb'⟩ : ∃ x, longB ss = x := ⟨_, rfl⟩
  rw [hlb'] at ql ⊢
  have HN := Lib.hid hnn
  have H1 := Lib.hid h1; have HD1 := Lib.hid hd1; have HR1 := Lib.hid hr1; have HP1 := Lib.hid p1; have HM1 := Lib.hid hm1; have HT := Lib.hid hT; have HAA := Lib.hid hA; have HW1 := Lib.hid hW1; have HS := Lib.hid hs
  have HOK := Lib.hid hok
  have QN := Lib.hid qn; have QL := Lib.hid ql; have QG := Lib.hid qg
  simp only at hrl hgl hzl e5
  clear h hd hT hr hA hnn hlb' h1 hd1 hr1 hm1 hs hok qn ql qg
  cases br
  · rw [if_neg (show ¬ (false = true) by decide)]
    cases lb
    · rw [if_neg (show ¬ (false = true) by decide)]
      by_cases hn0 : n = 0
      · subst hn0
        rw [if_pos rfl]
        go_enter Tryz.func11, Tryz.ntmps11
        go_wp2_with fail
        refine QN.out.mono ?_
        rintro e w2 ⟨rfl, rfl⟩
        go_wp2_with fail
        refine QL.out.mono ?_
        rintro e w2 ⟨rfl, rfl⟩
        go_wp2
        go_ret
        exact ⟨T, rfl, H1.out, HD1.out, HM1.out⟩
      · rw [if_neg hn0]
        have hnb : ((n : Int) == 0) = false := beq_false_of_ne (by omega)
        obtain ⟨y, hy⟩ : ∃ y, groupB ss = y := ⟨_, rfl⟩
        rw [hy] at QG hgl' ⊢
        obtain ⟨r, hr⟩ : ∃ r, firstD (commitD nm y) st = r := ⟨_, rfl⟩
        rw [hr]
        have HR := Lib.hid hr
        clear hy hr
        obtain ⟨r1, st2⟩ := r
        by_cases h0 : r1 = 0
        · subst h0
          rw [if_pos rfl]
          go_enter Tryz.func11, Tryz.ntmps11
          go_wp2_with fail
          refine QN.out.mono ?_
          rintro e w2 ⟨rfl, rfl⟩
          go_wp2_with fail
          refine QL.out.mono ?_
          rintro e w2 ⟨rfl, rfl⟩
          go_wp2_with fail
          refine QG.out.mono ?_
          rintro e w2 ⟨rfl, hb2⟩
          have hz2' := hb2.size
          obtain ⟨W3, hW3⟩ : ∃ W, w2.alloc (.cells #[.string y] 9) = W := ⟨_, rfl⟩
          have z3 : W3.heap.size = w2.heap.size + 1 := by rw [← hW3]; simp
          have hb3 : Below W1.heap.size W1 W3 := by rw [← hW3]; exact hb2.alloc hb2.size _
          have HL3 := Lib.hid (H1.out.below hb3)
          have hd3 : DkAt c b st W3 := HD1.out.below hb3 (by omega) (by omega)
          have HR3 := Lib.hid (HR1.out.below (hb3.mono (by omega)))
          have ep : W3.cell? ⟨w.heap.size, 0, none⟩ = some (.pointer (some ⟨g, 0, none⟩)) := (hb3.cell (show w.heap.size < W1.heap.size by omega)).trans HP1.out
          have ex : W3.cell? ⟨w2.heap.size, 0, none⟩ = some (.string y) := by rw [← hW3]; exact cell_new1 _ _ _
          have HM3 := Lib.hid (HM1.out.then_below hb3)
          have qf := fun (s : Nat) (hs : s = W3.heap.size) => steps_any g c b w.heap.size w2.heap.size nm y st HOK.out W3 hd3 HL3.out.cell0 HL3.out.cell1 ep ex hgn ⟨by omega, by omega⟩ ⟨by omega, by omega⟩ (by omega) (by omega) s hs
          rw [HR.out] at qf
          have QF := Lib.hid qf
          have HZ3 := Lib.hid z3
          have hmf := makes
          clear hb2 hb3 hd3 qf p1 e5 hW1 z3
          go_wp2_with fail
          refine (QF.out _ (by have := HZ3.out; omega)).mono ?_
          rintro e w5 ⟨rfl, h5, hm5⟩
          have HK5 := Lib.hid h5
          have HL5 := Lib.hid (HL3.out.aside hm5 (fun k hk => by have := HT.out k hk; simp; omega))
          have HP5 := Lib.hid (mv_keep hm5 ⟨by omega, by omega⟩ ep)
          have HX5 := Lib.hid (mv_keep hm5 ⟨by omega, by omega⟩ ex)
          have HR5 := Lib.hid (HR3.out.mv hm5 (by have := HZ3.out; omega) (fun h0 ad e => by have := HAA.out h0 ad e; simp; omega))
          have HM5 : Hid (Mv (c :: b :: T) (c :: b :: T) w w5) := HM3.out.trans (Mv.wide hm5 (fun k hk => by simp at hk ⊢; omega))
          have hz5 : W1.heap.size < w5.heap.size := by have := hm5.size; have := HZ3.out; omega
          have hx5 : w2.heap.size < w5.heap.size := by have := hm5.size; have := HZ3.out; omega
          have HTW := Lib.hid H1.out.there
          clear h5 hm5 ep ex hW3 QF HM3 HR3 HL3 hmf HM1 HD1 H1 HP1
          have hpT : w.heap.size ∉ T := fun e => by have := HTW0.out _ e; omega
          have hxT : w2.heap.size ∉ T := fun e => by have := HTW0.out _ e; omega
          go_wp2
          go_loopw [38] (fun i wr => ∃ (k : Nat) (T' : List Nat), k ≤ n ∧ i = .int .i64 k ∧ Hid (LogAt g c T' nm ⟨rs ++ ss.take k, gr, sz, false⟩ wr) ∧ Hid (Mv T T' w5 wr)) (fun i _ => n - (intOf i).toNat)
          case atStart => exact ⟨0, T, Nat.zero_le _, rfl, by show LogAt _ _ _ _ _ _; rw [List.take_zero, List.append_nil]; exact HL5.out, Mv.refl _ _⟩
          case round =>
            obtain ⟨k, T', hk, rfl, HLG, HM⟩ := hrel
            have hszr := HM.out.size
            have cp0 : wr.cell? ⟨w.heap.size, 0, none⟩ = some (.pointer (some ⟨g, 0, none⟩)) := mv_apart HM.out hpT HP5.out
            have hgr : g < wr.heap.size := HLG.out.lt
            by_cases hlt : k < n
            · have hrd := HR5.out.mv HM.out (by omega) (fun h0 ad e => (HAA.out h0 ad e).1)
              obtain ⟨ad, s, rfl, hab, hsk, hcell⟩ := str_at hrd hlt
              have hss := size_le_total (List.mem_of_getElem? hsk)
              have htk := take_snoc hsk
              have HTK := Lib.hid htk
              have hpT' : w.heap.size ∉ T' := fun e => by
                rcases HM.out.link _ e with h | h
                · exact hpT h
                · omega
              obtain ⟨v, hTv, hbk, hown, hne⟩ := HLG.out
              obtain ⟨A3, c3, rfl, hc3⟩ := own_form hown
              simp only at hbk hown hTv hne hc3
              obtain ⟨m, hm⟩ : ∃ m, (rs ++ ss.take k).length = m := ⟨_, rfl⟩
              have hmm : m ≤ 2000000 := by rw [← hm, List.length_append, List.length_take]; omega
              rw [hm] at hbk hown hTv hne
              have HMM := Lib.hid hm; have HBK := Lib.hid hbk; have HTV := Lib.hid hTv; have HNE := Lib.hid hne; have HOW := Lib.hid hown
              have cg0 : wr.cell? ⟨g, 2, none⟩ = some (.slice A3 m c3) := by rw [Lib.cell_of_heap hbk]; rfl
              have hpv : (Value.slice A3 m c3).ownBlock ≠ some w.heap.size := fun e => hpT' (by rw [hTv, e]; simp)
              have HPV := Lib.hid hpv
              clear hm hbk hown hTv hne hc3 hrd hsk htk hpv
              go_wp2
              refine wp_region_held_drew (S := fun X => X.cell? ⟨w.heap.size, 0, none⟩ = some (.pointer (some ⟨g, 0, none⟩))) (by kernel_rfl) (show (wr.drew).cell? _ = _ from cp0) (fun hHeld => ?_)
              refine wpAnyH_take (i := 0) (v := ?_) rfl (by kernel_rfl) (by kernel_rfl) (by kernel_rfl) (fun _ _ _ h => h) (Or.inl ⟨by rfl, ?_⟩) (by assumption) ?_
              rotate_left
              · intro X hSw; (try dsimp only at hSw); (try simp only [List.getElem_toArray, List.getElem_cons_zero]); first | (go_simp; done) | (go_simp; with_reducible rfl)
              try simp only [Act.put, List.setIfInBounds_toArray, List.set_cons_zero, List.set_cons_succ, List.getElem_toArray, List.getElem_cons_zero]
              refine wpAnyH_take (i := 1) (v := ?_) rfl (by kernel_rfl) (by kernel_rfl) (by kernel_rfl) (fun _ _ _ h => h) (Or.inl ⟨by rfl, ?_⟩) (by assumption) ?_
              rotate_left
              · intro X hSw; (try dsimp only at hSw); (try simp only [List.getElem_toArray, List.getElem_cons_succ, List.getElem_cons_zero]); first | (go_simp; done) | (go_simp; with_reducible rfl)
              try simp only [Act.put, List.setIfInBounds_toArray, List.set_cons_zero, List.set_cons_succ, List.getElem_toArray, List.getElem_cons_succ, List.getElem_cons_zero]
              refine wpAnyH_take (i := 2) (v := ?_) rfl (by kernel_rfl) (by kernel_rfl) (by kernel_rfl) (fun _ _ _ h => h) (Or.inl ⟨by rfl, ?_⟩) (by assumption) ?_
              rotate_left
              · intro X hSw; (try dsimp only at hSw); (try simp only [List.getElem_toArray, List.getElem_cons_succ, List.getElem_cons_zero]); first | (go_simp; done) | (go_simp; with_reducible rfl)
              try simp only [Act.put, List.setIfInBounds_toArray, List.set_cons_zero, List.set_cons_succ, List.getElem_toArray, List.getElem_cons_succ, List.getElem_cons_zero]
              refine wpAnyH_take (i := 3) (v := ?_) rfl (by kernel_rfl) (by kernel_rfl) (by kernel_rfl) (fun _ _ _ h => h) (Or.inl ⟨by rfl, ?_⟩) (by assumption) ?_
              rotate_left
              · intro X hSw; (try dsimp only at hSw); (try simp only [List.getElem_toArray, List.getElem_cons_succ, List.getElem_cons_zero]); first | (go_simp; done) | (go_simp; with_reducible rfl)
              try simp only [Act.put, List.setIfInBounds_toArray, List.set_cons_zero, List.set_cons_succ, List.getElem_toArray, List.getElem_cons_succ, List.getElem_cons_zero]
              refine wpAnyH_take (i := 5) (v := ?_) rfl (by kernel_rfl) (by kernel_rfl) (by kernel_rfl) (fun _ _ _ h => h) (Or.inl ⟨by rfl, ?_⟩) (by assumption) ?_
              rotate_left
              · intro X hSw; (try dsimp only at hSw); (try simp only [List.getElem_toArray, List.getElem_cons_succ, List.getElem_cons_zero]); first | (go_simp; done) | (go_simp; with_reducible rfl)
              try simp only [Act.put, List.setIfInBounds_toArray, List.set_cons_zero, List.set_cons_succ, List.getElem_toArray, List.getElem_cons_succ, List.getElem_cons_zero]
              refine wpAnyH_ready (rs := [4, 6]) (by kernel_rfl) (by simp) (AllReadyH.cons rfl (fun K hK => ?_) (AllReadyH.cons rfl (fun K hK => ?_) (AllReadyH.nil)))
              · try simp only [List.getElem_toArray, List.getElem_cons_succ, List.getElem_cons_zero]
                go_simp
                refine hK.out _ _ (cp0) (fun hHeld => ?_)
                clear hK K
                try simp only [Act.put, List.setIfInBounds_toArray, List.set_cons_zero, List.set_cons_succ, List.getElem_toArray, List.getElem_cons_succ, List.getElem_cons_zero]
                refine wpAnyH_ready (rs := [6]) (by kernel_rfl) (by simp) (AllReadyH.cons rfl (fun K hK => ?_) (AllReadyH.nil))
                try simp only [List.getElem_toArray, List.getElem_cons_succ, List.getElem_cons_zero]
                go_simp
                refine (clone_any s _ (by omega)).mono ?_
                rintro e w6 ⟨rfl, hb6⟩
                have hz6 : wr.heap.size ≤ w6.heap.size := hb6.size
                have cp6 : w6.cell? ⟨w.heap.size, 0, none⟩ = some (.pointer (some ⟨g, 0, none⟩)) := (hb6.cell (show w.heap.size < wr.heap.size by omega)).trans cp0
                have cg6 : w6.cell? ⟨g, 2, none⟩ = some (.slice A3 m c3) := (hb6.cell (show g < wr.heap.size from hgr)).trans cg0
                have ho6 : w6.ownsRow 0 9 1 (.slice A3 m c3) m (strs (rs ++ ss.take k)) := Wi.ownsRow_keep HOW.out (fun q hq => hb6.block q (HOW.out.lt q hq).2)
                have HB6 := Lib.hid hb6
                have cga6 := cell_old w6 (.cells #[.string s] 9) cg6 (by omega)
                have cpa6 := cell_old w6 (.cells #[.string s] 9) cp6 (by omega)
                clear hb6
                refine hK.out _ _ (cp6) (fun hHeld => ?_)
                clear hK K
                try simp only [Act.put, List.setIfInBounds_toArray, List.set_cons_zero, List.set_cons_succ, List.getElem_toArray, List.getElem_cons_succ, List.getElem_cons_zero]
                refine wpAnyH_ready (rs := [7]) (by kernel_rfl) (by simp) (AllReadyH.cons rfl (fun K hK => ?_) (AllReadyH.nil))
                try simp only [List.getElem_toArray, List.getElem_cons_succ, List.getElem_cons_zero]
                go_simp
                refine hK.out _ _ (cpa6) (fun hHeld => ?_)
                clear hK K
                try simp only [Act.put, List.setIfInBounds_toArray, List.set_cons_zero, List.set_cons_succ, List.getElem_toArray, List.getElem_cons_succ, List.getElem_cons_zero]
                refine wpAnyH_ready (rs := [8]) (by kernel_rfl) (by simp) (AllReadyH.cons rfl (fun K hK => ?_) (AllReadyH.nil))
                refine step_append_any _ rfl (.tmp 46) (.tmp 49) 22 rfl 0 9 i0 (.string ⟨#[]⟩) 1 16 Tryz.underlying22 hinf hz0 hz1 hz2 rfl (by decide) (.slice A3 m c3) m (strs (rs ++ ss.take k)) (by rfl) (ho6.alloc _) (w6.heap.size + 1) (some ⟨w6.heap.size, 0, none⟩) 1 1 [.string s] (by rfl) (reads_newV w6 _ _ _ rfl rfl rfl (Nat.lt_succ_self _)) (by simp [Value.oneCell']) (by unfold maxLen; omega) (by omega) (Nat.zero_le _) ?_
                intro v7 w7 hown7 hgrow7 hlink7
                have hbk7 := (hgrow7.block g (show g < (w6.alloc _).heap.size by rw [size_alloc_one]; omega) (fun e => HNE.out e.symm)).trans ((Below.heap_alloc w6 _ g (show g < w6.heap.size by omega)).trans ((HB6.out.block g (show g < wr.heap.size from hgr)).trans HBK.out))
                have e7 : w7.cell? ⟨g, 2, none⟩ = some (.slice A3 m c3) := (by rw [Lib.cell_of_heap hbk7]; rfl)
                have f7 : w7.frozen? ⟨g, 2, none⟩ = false := Lib.frozen_of_heap hbk7 2
                have cp7 : w7.cell? ⟨w.heap.size, 0, none⟩ = some (.pointer (some ⟨g, 0, none⟩)) := (World.cell?_of_block (a := ⟨w.heap.size, 0, none⟩) (hgrow7.block w.heap.size (show w.heap.size < (w6.alloc _).heap.size by rw [size_alloc_one]; omega) (fun e => HPV.out e.symm))).trans (cell_old w6 _ cp6 (by omega))
                obtain ⟨A4, c4, rfl, hc4⟩ := own_form hown7
                refine hK.out _ _ (cp7) (fun hHeld => ?_)
                clear hK K
                try simp only [Act.put, List.setIfInBounds_toArray, List.set_cons_zero, List.set_cons_succ, List.getElem_toArray, List.getElem_cons_succ, List.getElem_cons_zero]
                refine wpAnyH_take (i := 9) (v := ?_) rfl (by kernel_rfl) (by kernel_rfl) (by kernel_rfl) (fun _ _ _ h => h) (Or.inl ⟨by rfl, ?_⟩) (by assumption) ?_
                rotate_left
                · intro X hSw; (try dsimp only at hSw); (try simp only [List.getElem_toArray, List.getElem_cons_succ, List.getElem_cons_zero]); first | (go_simp; done) | (go_simp; with_reducible rfl)
                try simp only [Act.put, List.setIfInBounds_toArray, List.set_cons_zero, List.set_cons_succ, List.getElem_toArray, List.getElem_cons_succ, List.getElem_cons_zero]
                refine wpAnyH_take (i := 10) (v := ?_) rfl (by kernel_rfl) (by kernel_rfl) (by kernel_rfl) (fun _ _ _ h => h) (Or.inl ⟨by rfl, ?_⟩) (by assumption) ?_
                rotate_left
                · intro X hSw; (try dsimp only at hSw); (try simp only [List.getElem_toArray, List.getElem_cons_succ, List.getElem_cons_zero]); first | (go_simp; done) | (go_simp; with_reducible rfl)
                try simp only [Act.put, List.setIfInBounds_toArray, List.set_cons_zero, List.set_cons_succ, List.getElem_toArray, List.getElem_cons_succ, List.getElem_cons_zero]
                refine wpAnyH_ready (rs := [11]) (by kernel_rfl) (by simp) (AllReadyH.cons rfl (fun K hK => ?_) (AllReadyH.nil))
                try simp only [List.getElem_toArray, List.getElem_cons_succ, List.getElem_cons_zero]
                go_simp
                refine hK.out _ _ ((World.cell?_setCell_other _ _ _ _ (by first | (simp; done) | (simp; omega))).trans cp7) (fun hHeld => ?_)
                clear hK K
                try simp only [Act.put, List.setIfInBounds_toArray, List.set_cons_zero, List.set_cons_succ, List.getElem_toArray, List.getElem_cons_succ, List.getElem_cons_zero]
                refine wpAnyH_done (by kernel_rfl) ?_ _
                have hne7 : (Value.slice A4 (m + 1) c4).ownBlock ≠ some g := by
                  rcases hlink7 with e | e
                  · rw [e]; exact HNE.out
                  · rw [e, size_alloc_one]; intro e'; injection e' with e'; omega
                have HL7 := Lib.hid (LogAt.more (rs := rs ++ ss.take (k + 1)) (n := m + 1) (by rw [HTK.out, ← List.append_assoc, List.length_append, HMM.out]; rfl) hbk7 (by rw [HTK.out, ← List.append_assoc, strs_snoc]; exact hown7) hne7)
                have HM7 : Hid (Mv T (g :: (Value.slice A4 (m + 1) c4).ownBlock.toList) w5 (w7.setCell ⟨g, 2, none⟩ (.slice A4 (m + 1) c4))) := by
                  show Mv _ _ _ _
                  refine (Mv.grown (((((HM.out.drewN 1).then_below HB6.out)).alloc (.cells #[.string s] 9))) hgrow7 (fun q e => by rw [HTV.out]; simp [e]) (fun q hq => ?_)).set_ (by simp) 2 _
                  rw [HTV.out]
                  simp only [List.mem_cons, Option.mem_toList] at hq ⊢
                  rcases hq with rfl | hq
                  · exact .inl (.inl rfl)
                  · rcases hlink7 with e | e
                    · rw [e] at hq; exact .inl (.inr hq)
                    · rw [e] at hq; injection hq with hq; right; omega
                clear hgrow7 hlink7 hown7 hbk7 e7 f7 cp7 cga6 cpa6 cg6 cp6 ho6 hne7 hHeld
                go_wp2
                go_roundw
                case rel => exact ⟨k + 1, _, hlt, by go_num, HL7.out, HM7.out⟩
                case measure => simp [intOf]; omega
              · try simp only [List.getElem_toArray, List.getElem_cons_succ, List.getElem_cons_zero]
                go_simp
                refine (clone_any s _ (by omega)).mono ?_
                rintro e w6 ⟨rfl, hb6⟩
                have hz6 : wr.heap.size ≤ w6.heap.size := hb6.size
                have cp6 : w6.cell? ⟨w.heap.size, 0, none⟩ = some (.pointer (some ⟨g, 0, none⟩)) := (hb6.cell (show w.heap.size < wr.heap.size by omega)).trans cp0
                have cg6 : w6.cell? ⟨g, 2, none⟩ = some (.slice A3 m c3) := (hb6.cell (show g < wr.heap.size from hgr)).trans cg0
                have ho6 : w6.ownsRow 0 9 1 (.slice A3 m c3) m (strs (rs ++ ss.take k)) := Wi.ownsRow_keep HOW.out (fun q hq => hb6.block q (HOW.out.lt q hq).2)
                have HB6 := Lib.hid hb6
                have cga6 := cell_old w6 (.cells #[.string s] 9) cg6 (by omega)
                have cpa6 := cell_old w6 (.cells #[.string s] 9) cp6 (by omega)
                clear hb6
                refine hK.out _ _ (cp6) (fun hHeld => ?_)
                clear hK K
                try simp only [Act.put, List.setIfInBounds_toArray, List.set_cons_zero, List.set_cons_succ, List.getElem_toArray, List.getElem_cons_succ, List.getElem_cons_zero]
                refine wpAnyH_ready (rs := [4, 7]) (by kernel_rfl) (by simp) (AllReadyH.cons rfl (fun K hK => ?_) (AllReadyH.cons rfl (fun K hK => ?_) (AllReadyH.nil)))
                · try simp only [List.getElem_toArray, List.getElem_cons_succ, List.getElem_cons_zero]
                  go_simp
                  refine hK.out _ _ (cp6) (fun hHeld => ?_)
                  clear hK K
                  try simp only [Act.put, List.setIfInBounds_toArray, List.set_cons_zero, List.set_cons_succ, List.getElem_toArray, List.getElem_cons_succ, List.getElem_cons_zero]
                  refine wpAnyH_ready (rs := [7]) (by kernel_rfl) (by simp) (AllReadyH.cons rfl (fun K hK => ?_) (AllReadyH.nil))
                  try simp only [List.getElem_toArray, List.getElem_cons_succ, List.getElem_cons_zero]
                  go_simp
                  refine hK.out _ _ (cpa6) (fun hHeld => ?_)
                  clear hK K
                  try simp only [Act.put, List.setIfInBounds_toArray, List.set_cons_zero, List.set_cons_succ, List.getElem_toArray, List.getElem_cons_succ, List.getElem_cons_zero]
                  refine wpAnyH_ready (rs := [8]) (by kernel_rfl) (by simp) (AllReadyH.cons rfl (fun K hK => ?_) (AllReadyH.nil))
                  refine step_append_any _ rfl (.tmp 46) (.tmp 49) 22 rfl 0 9 i0 (.string ⟨#[]⟩) 1 16 Tryz.underlying22 hinf hz0 hz1 hz2 rfl (by decide) (.slice A3 m c3) m (strs (rs ++ ss.take k)) (by rfl) (ho6.alloc _) (w6.heap.size + 1) (some ⟨w6.heap.size, 0, none⟩) 1 1 [.string s] (by rfl) (reads_newV w6 _ _ _ rfl rfl rfl (Nat.lt_succ_self _)) (by simp [Value.oneCell']) (by unfold maxLen; omega) (by omega) (Nat.zero_le _) ?_
                  intro v7 w7 hown7 hgrow7 hlink7
                  have hbk7 := (hgrow7.block g (show g < (w6.alloc _).heap.size by rw [size_alloc_one]; omega) (fun e => HNE.out e.symm)).trans ((Below.heap_alloc w6 _ g (show g < w6.heap.size by omega)).trans ((HB6.out.block g (show g < wr.heap.size from hgr)).trans HBK.out))
                  have e7 : w7.cell? ⟨g, 2, none⟩ = some (.slice A3 m c3) := (by rw [Lib.cell_of_heap hbk7]; rfl)
                  have f7 : w7.frozen? ⟨g, 2, none⟩ = false := Lib.frozen_of_heap hbk7 2
                  have cp7 : w7.cell? ⟨w.heap.size, 0, none⟩ = some (.pointer (some ⟨g, 0, none⟩)) := (World.cell?_of_block (a := ⟨w.heap.size, 0, none⟩) (hgrow7.block w.heap.size (show w.heap.size < (w6.alloc _).heap.size by rw [size_alloc_one]; omega) (fun e => HPV.out e.symm))).trans (cell_old w6 _ cp6 (by omega))
                  obtain ⟨A4, c4, rfl, hc4⟩ := own_form hown7
                  refine hK.out _ _ (cp7) (fun hHeld => ?_)
                  clear hK K
                  try simp only [Act.put, List.setIfInBounds_toArray, List.set_cons_zero, List.set_cons_succ, List.getElem_toArray, List.getElem_cons_succ, List.getElem_cons_zero]
                  refine wpAnyH_take (i := 9) (v := ?_) rfl (by kernel_rfl) (by kernel_rfl) (by kernel_rfl) (fun _ _ _ h => h) (Or.inl ⟨by rfl, ?_⟩) (by assumption) ?_
                  rotate_left
                  · intro X hSw; (try dsimp only at hSw); (try simp only [List.getElem_toArray, List.getElem_cons_succ, List.getElem_cons_zero]); first | (go_simp; done) | (go_simp; with_reducible rfl)
                  try simp only [Act.put, List.setIfInBounds_toArray, List.set_cons_zero, List.set_cons_succ, List.getElem_toArray, List.getElem_cons_succ, List.getElem_cons_zero]
                  refine wpAnyH_take (i := 10) (v := ?_) rfl (by kernel_rfl) (by kernel_rfl) (by kernel_rfl) (fun _ _ _ h => h) (Or.inl ⟨by rfl, ?_⟩) (by assumption) ?_
                  rotate_left
                  · intro X hSw; (try dsimp only at hSw); (try simp only [List.getElem_toArray, List.getElem_cons_succ, List.getElem_cons_zero]); first | (go_simp; done) | (go_simp; with_reducible rfl)
                  try simp only [Act.put, List.setIfInBounds_toArray, List.set_cons_zero, List.set_cons_succ, List.getElem_toArray, List.getElem_cons_succ, List.getElem_cons_zero]
                  refine wpAnyH_ready (rs := [11]) (by kernel_rfl) (by simp) (AllReadyH.cons rfl (fun K hK => ?_) (AllReadyH.nil))
                  try simp only [List.getElem_toArray, List.getElem_cons_succ, List.getElem_cons_zero]
                  go_simp
                  refine hK.out _ _ ((World.cell?_setCell_other _ _ _ _ (by first | (simp; done) | (simp; omega))).trans cp7) (fun hHeld => ?_)
                  clear hK K
                  try simp only [Act.put, List.setIfInBounds_toArray, List.set_cons_zero, List.set_cons_succ, List.getElem_toArray, List.getElem_cons_succ, List.getElem_cons_zero]
                  refine wpAnyH_done (by kernel_rfl) ?_ _
                  have hne7 : (Value.slice A4 (m + 1) c4).ownBlock ≠ some g := by
                    rcases hlink7 with e | e
                    · rw [e]; exact HNE.out
                    · rw [e, size_alloc_one]; intro e'; injection e' with e'; omega
                  have HL7 := Lib.hid (LogAt.more (rs := rs ++ ss.take (k + 1)) (n := m + 1) (by rw [HTK.out, ← List.append_assoc, List.length_append, HMM.out]; rfl) hbk7 (by rw [HTK.out, ← List.append_assoc, strs_snoc]; exact hown7) hne7)
                  have HM7 : Hid (Mv T (g :: (Value.slice A4 (m + 1) c4).ownBlock.toList) w5 (w7.setCell ⟨g, 2, none⟩ (.slice A4 (m + 1) c4))) := by
                    show Mv _ _ _ _
                    refine (Mv.grown (((((HM.out.drewN 1).then_below HB6.out)).alloc (.cells #[.string s] 9))) hgrow7 (fun q e => by rw [HTV.out]; simp [e]) (fun q hq => ?_)).set_ (by simp) 2 _
                    rw [HTV.out]
                    simp only [List.mem_cons, Option.mem_toList] at hq ⊢
                    rcases hq with rfl | hq
                    · exact .inl (.inl rfl)
                    · rcases hlink7 with e | e
                      · rw [e] at hq; exact .inl (.inr hq)
                      · rw [e] at hq; injection hq with hq; right; omega
                  clear hgrow7 hlink7 hown7 hbk7 e7 f7 cp7 cga6 cpa6 cg6 cp6 ho6 hne7 hHeld
                  go_wp2
                  go_roundw
                  case rel => exact ⟨k + 1, _, hlt, by go_num, HL7.out, HM7.out⟩
                  case measure => simp [intOf]; omega
                · try simp only [List.getElem_toArray, List.getElem_cons_succ, List.getElem_cons_zero]
                  go_simp
                  refine hK.out _ _ (cpa6) (fun hHeld => ?_)
                  clear hK K
                  try simp only [Act.put, List.setIfInBounds_toArray, List.set_cons_zero, List.set_cons_succ, List.getElem_toArray, List.getElem_cons_succ, List.getElem_cons_zero]
                  refine wpAnyH_ready (rs := [4]) (by kernel_rfl) (by simp) (AllReadyH.cons rfl (fun K hK => ?_) (AllReadyH.nil))
                  try simp only [List.getElem_toArray, List.getElem_cons_succ, List.getElem_cons_zero]
                  go_simp
                  refine hK.out _ _ (cpa6) (fun hHeld => ?_)
                  clear hK K
                  try simp only [Act.put, List.setIfInBounds_toArray, List.set_cons_zero, List.set_cons_succ, List.getElem_toArray, List.getElem_cons_succ, List.getElem_cons_zero]
                  refine wpAnyH_ready (rs := [8]) (by kernel_rfl) (by simp) (AllReadyH.cons rfl (fun K hK => ?_) (AllReadyH.nil))
                  refine step_append_any _ rfl (.tmp 46) (.tmp 49) 22 rfl 0 9 i0 (.string ⟨#[]⟩) 1 16 Tryz.underlying22 hinf hz0 hz1 hz2 rfl (by decide) (.slice A3 m c3) m (strs (rs ++ ss.take k)) (by rfl) (ho6.alloc _) (w6.heap.size + 1) (some ⟨w6.heap.size, 0, none⟩) 1 1 [.string s] (by rfl) (reads_newV w6 _ _ _ rfl rfl rfl (Nat.lt_succ_self _)) (by simp [Value.oneCell']) (by unfold maxLen; omega) (by omega) (Nat.zero_le _) ?_
                  intro v7 w7 hown7 hgrow7 hlink7
                  have hbk7 := (hgrow7.block g (show g < (w6.alloc _).heap.size by rw [size_alloc_one]; omega) (fun e => HNE.out e.symm)).trans ((Below.heap_alloc w6 _ g (show g < w6.heap.size by omega)).trans ((HB6.out.block g (show g < wr.heap.size from hgr)).trans HBK.out))
                  have e7 : w7.cell? ⟨g, 2, none⟩ = some (.slice A3 m c3) := (by rw [Lib.cell_of_heap hbk7]; rfl)
                  have f7 : w7.frozen? ⟨g, 2, none⟩ = false := Lib.frozen_of_heap hbk7 2
                  have cp7 : w7.cell? ⟨w.heap.size, 0, none⟩ = some (.pointer (some ⟨g, 0, none⟩)) := (World.cell?_of_block (a := ⟨w.heap.size, 0, none⟩) (hgrow7.block w.heap.size (show w.heap.size < (w6.alloc _).heap.size by rw [size_alloc_one]; omega) (fun e => HPV.out e.symm))).trans (cell_old w6 _ cp6 (by omega))
                  obtain ⟨A4, c4, rfl, hc4⟩ := own_form hown7
                  refine hK.out _ _ (cp7) (fun hHeld => ?_)
                  clear hK K
                  try simp only [Act.put, List.setIfInBounds_toArray, List.set_cons_zero, List.set_cons_succ, List.getElem_toArray, List.getElem_cons_succ, List.getElem_cons_zero]
                  refine wpAnyH_take (i := 9) (v := ?_) rfl (by kernel_rfl) (by kernel_rfl) (by kernel_rfl) (fun _ _ _ h => h) (Or.inl ⟨by rfl, ?_⟩) (by assumption) ?_
                  rotate_left
                  · intro X hSw; (try dsimp only at hSw); (try simp only [List.getElem_toArray, List.getElem_cons_succ, List.getElem_cons_zero]); first | (go_simp; done) | (go_simp; with_reducible rfl)
                  try simp only [Act.put, List.setIfInBounds_toArray, List.set_cons_zero, List.set_cons_succ, List.getElem_toArray, List.getElem_cons_succ, List.getElem_cons_zero]
                  refine wpAnyH_take (i := 10) (v := ?_) rfl (by kernel_rfl) (by kernel_rfl) (by kernel_rfl) (fun _ _ _ h => h) (Or.inl ⟨by rfl, ?_⟩) (by assumption) ?_
                  rotate_left
                  · intro X hSw; (try dsimp only at hSw); (try simp only [List.getElem_toArray, List.getElem_cons_succ, List.getElem_cons_zero]); first | (go_simp; done) | (go_simp; with_reducible rfl)
                  try simp only [Act.put, List.setIfInBounds_toArray, List.set_cons_zero, List.set_cons_succ, List.getElem_toArray, List.getElem_cons_succ, List.getElem_cons_zero]
                  refine wpAnyH_ready (rs := [11]) (by kernel_rfl) (by simp) (AllReadyH.cons rfl (fun K hK => ?_) (AllReadyH.nil))
                  try simp only [List.getElem_toArray, List.getElem_cons_succ, List.getElem_cons_zero]
                  go_simp
                  refine hK.out _ _ ((World.cell?_setCell_other _ _ _ _ (by first | (simp; done) | (simp; omega))).trans cp7) (fun hHeld => ?_)
                  clear hK K
                  try simp only [Act.put, List.setIfInBounds_toArray, List.set_cons_zero, List.set_cons_succ, List.getElem_toArray, List.getElem_cons_succ, List.getElem_cons_zero]
                  refine wpAnyH_done (by kernel_rfl) ?_ _
                  have hne7 : (Value.slice A4 (m + 1) c4).ownBlock ≠ some g := by
                    rcases hlink7 with e | e
                    · rw [e]; exact HNE.out
                    · rw [e, size_alloc_one]; intro e'; injection e' with e'; omega
                  have HL7 := Lib.hid (LogAt.more (rs := rs ++ ss.take (k + 1)) (n := m + 1) (by rw [HTK.out, ← List.append_assoc, List.length_append, HMM.out]; rfl) hbk7 (by rw [HTK.out, ← List.append_assoc, strs_snoc]; exact hown7) hne7)
                  have HM7 : Hid (Mv T (g :: (Value.slice A4 (m + 1) c4).ownBlock.toList) w5 (w7.setCell ⟨g, 2, none⟩ (.slice A4 (m + 1) c4))) := by
                    show Mv _ _ _ _
                    refine (Mv.grown (((((HM.out.drewN 1).then_below HB6.out)).alloc (.cells #[.string s] 9))) hgrow7 (fun q e => by rw [HTV.out]; simp [e]) (fun q hq => ?_)).set_ (by simp) 2 _
                    rw [HTV.out]
                    simp only [List.mem_cons, Option.mem_toList] at hq ⊢
                    rcases hq with rfl | hq
                    · exact .inl (.inl rfl)
                    · rcases hlink7 with e | e
                      · rw [e] at hq; exact .inl (.inr hq)
                      · rw [e] at hq; injection hq with hq; right; omega
                  clear hgrow7 hlink7 hown7 hbk7 e7 f7 cp7 cga6 cpa6 cg6 cp6 ho6 hne7 hHeld
                  go_wp2
                  go_roundw
                  case rel => exact ⟨k + 1, _, hlt, by go_num, HL7.out, HM7.out⟩
                  case measure => simp [intOf]; omega
            · obtain rfl : k = n := by omega
              have hcx := mv_apart HM.out hxT HX5.out
              have hlog : LogAt g c T' nm ⟨rs ++ ss, gr, sz, false⟩ wr := by
                have h := HLG.out
                rw [List.take_of_length_le (by rw [HN.out]; exact Nat.le_refl _)] at h
                exact h
              have e3 := hlog.cell3
              have f3 := hlog.frozen 3
              obtain ⟨W8, hW8⟩ : ∃ W, wr.setCell ⟨g, 3, none⟩ (.int .i64 ((gr : Int) + 1)) = W := ⟨_, rfl⟩
              have hl8 : LogAt g c T' nm ⟨rs ++ ss, gr + 1, sz, false⟩ W8 := by rw [← hW8]; exact hlog.set3 (gr + 1)
              have e84 := hl8.cell4
              have f84 := hl8.frozen 4
              have p8 : W8.cell? ⟨w.heap.size, 0, none⟩ = some (.pointer (some ⟨g, 0, none⟩)) := by rw [← hW8]; exact (World.cell?_setCell_other _ _ _ _ (by first | (simp; done) | (simp; omega))).trans cp0
              have x8 : W8.cell? ⟨w2.heap.size, 0, none⟩ = some (.string y) := by rw [← hW8]; exact (World.cell?_setCell_other _ _ _ _ (by first | (simp; done) | (simp; omega))).trans hcx
              have hgT' := hlog.own
              have HM8 := Lib.hid (show Mv T T' w5 W8 by rw [← hW8]; exact HM.out.set_ hgT' 3 _)
              have HL8 := Lib.hid hl8
              clear hlog hl8 HLG HM
              go_wp2
              go_region
              have HL9 := Lib.hid (show LogAt g c T' nm ⟨rs ++ ss, gr + 1, sz + y.size, false⟩ (W8.setCell ⟨g, 4, none⟩ (.int .i64 ((sz : Int) + (y.size : Int)))).drew from (HL8.out.set4 (sz + y.size)).drewN 1)
              have hm9 : Mv T T' w5 (W8.setCell ⟨g, 4, none⟩ (.int .i64 ((sz : Int) + (y.size : Int)))).drew := (HM8.out.set_ hgT' 4 _).drewN 1
              have HK9 := Lib.hid (HK5.out.mv hm9 (fun e => (HT.out c e).1 rfl) (fun e => (HT.out b e).2 rfl))
              have HM9 := Lib.hid (HM5.out.trans (Mv.cons2 c b hm9))
              clear hm9 hW8 e84 f84 p8 x8 e3 f3 hcx cp0
              go_wp2
              go_ret
              exact ⟨T', rfl, HL9.out, HK9.out, HM9.out⟩
        · rw [if_neg h0]
          have hr0 : (r1 != 0) = true := by simpa using h0
          go_enter Tryz.func11, Tryz.ntmps11
          go_wp2_with fail
          refine QN.out.mono ?_
          rintro e w2 ⟨rfl, rfl⟩
          go_wp2_with fail
          refine QL.out.mono ?_
          rintro e w2 ⟨rfl, rfl⟩
          go_wp2_with fail
          refine QG.out.mono ?_
          rintro e w2 ⟨rfl, hb2⟩
          have hz2' := hb2.size
          obtain ⟨W3, hW3⟩ : ∃ W, w2.alloc (.cells #[.string y] 9) = W := ⟨_, rfl⟩
          have z3 : W3.heap.size = w2.heap.size + 1 := by rw [← hW3]; simp
          have hb3 : Below W1.heap.size W1 W3 := by rw [← hW3]; exact hb2.alloc hb2.size _
          have HL3 := Lib.hid (H1.out.below hb3)
          have hd3 : DkAt c b st W3 := HD1.out.below hb3 (by omega) (by omega)
          have HR3 := Lib.hid (HR1.out.below (hb3.mono (by omega)))
          have ep : W3.cell? ⟨w.heap.size, 0, none⟩ = some (.pointer (some ⟨g, 0, none⟩)) := (hb3.cell (show w.heap.size < W1.heap.size by omega)).trans HP1.out
          have ex : W3.cell? ⟨w2.heap.size, 0, none⟩ = some (.string y) := by rw [← hW3]; exact cell_new1 _ _ _
          have HM3 := Lib.hid (HM1.out.then_below hb3)
          have qf := fun (s : Nat) (hs : s = W3.heap.size) => steps_any g c b w.heap.size w2.heap.size nm y st HOK.out W3 hd3 HL3.out.cell0 HL3.out.cell1 ep ex hgn ⟨by omega, by omega⟩ ⟨by omega, by omega⟩ (by omega) (by omega) s hs
          rw [HR.out] at qf
          have QF := Lib.hid qf
          have HZ3 := Lib.hid z3
          have hmf := makes
          clear hb2 hb3 hd3 qf p1 e5 hW1 z3
          go_wp2_with fail
          refine (QF.out _ (by have := HZ3.out; omega)).mono ?_
          rintro e w5 ⟨rfl, h5, hm5⟩
          have HK5 := Lib.hid h5
          have HL5 := Lib.hid (HL3.out.aside hm5 (fun k hk => by have := HT.out k hk; simp; omega))
          have HP5 := Lib.hid (mv_keep hm5 ⟨by omega, by omega⟩ ep)
          have HX5 := Lib.hid (mv_keep hm5 ⟨by omega, by omega⟩ ex)
          have HR5 := Lib.hid (HR3.out.mv hm5 (by have := HZ3.out; omega) (fun h0 ad e => by have := HAA.out h0 ad e; simp; omega))
          have HM5 : Hid (Mv (c :: b :: T) (c :: b :: T) w w5) := HM3.out.trans (Mv.wide hm5 (fun k hk => by simp at hk ⊢; omega))
          have hz5 : W1.heap.size < w5.heap.size := by have := hm5.size; have := HZ3.out; omega
          have hx5 : w2.heap.size < w5.heap.size := by have := hm5.size; have := HZ3.out; omega
          have HTW := Lib.hid H1.out.there
          clear h5 hm5 ep ex hW3 QF HM3 HR3 HL3 hmf HM1 HD1 H1 HP1
          have f55 := HL5.out.frozen 5
          have e55 := HL5.out.cell5
          have p5 := HP5.out
          have HL6 := Lib.hid (HL5.out.set5 true)
          have hm6 : Mv T T w5 (w5.setCell ⟨g, 5, none⟩ (.bool true)) := (Mv.refl T w5).set_ hgT 5 _
          have HK6 := Lib.hid (HK5.out.mv hm6 (fun e => (HT.out c e).1 rfl) (fun e => (HT.out b e).2 rfl))
          have HM6 := Lib.hid (HM5.out.trans (Mv.cons2 c b hm6))
          clear hm6
          go_wp2
          go_ret
          exact ⟨T, rfl, HL6.out, HK6.out, HM6.out⟩
    · rw [if_pos rfl]
      go_enter Tryz.func11, Tryz.ntmps11
      go_wp2_with fail
      refine QN.out.mono ?_
      rintro e w2 ⟨rfl, rfl⟩
      go_wp2_with fail
      refine QL.out.mono ?_
      rintro e w2 ⟨rfl, rfl⟩
      go_wp2
      go_ret
      exact ⟨T, rfl, H1.out, HD1.out, HM1.out⟩
  · rw [if_pos rfl]
    go_enter Tryz.func11, Tryz.ntmps11
    go_wp2_with fail
    refine QN.out.mono ?_
    rintro e w2 ⟨rfl, rfl⟩
    go_wp2
    go_ret
    exact ⟨T, rfl, H1.out, HD1.out, HM1.out⟩
end Go.Proofs.YtfmbadinfhpihaaGreat
