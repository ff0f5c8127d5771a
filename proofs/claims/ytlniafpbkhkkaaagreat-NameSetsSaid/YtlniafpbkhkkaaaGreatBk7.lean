/-
  The book with lists of texts: growTexts as a contract.
  Conditions: lists that nobody else holds, each marked with its own marks.
-/
import Derived.Test.YtlniafpbkhkkaaaGreatBk6
namespace Go.Proofs.YtlniafpbkhkkaaaGreat
open Go.RowKit
attribute [local go_sem ↓] Go.wp_at_zero Go.wp_at_succ
set_option maxRecDepth 100000

theorem Mv.step {S : List Nat} {w w1 w2 : World} {row : Option Nat} (h : Mv S S w w1) (hg : w1.grownBy w2 row) (hrow : ∀ k, row = some k → k ∈ S ∨ w.heap.size ≤ k) : Mv S S w w2 := by
  have hs := h.size
  refine ⟨hg.os.trans h.os, hg.tape.trans h.tape, hg.output.trans h.output, Nat.le_trans hs hg.size, fun k hk hn => ?_, fun _ h => .inl h⟩
  rw [hg.block k (by omega) (fun e => (hrow k e.symm).elim hn (by omega))]
  exact h.block k hk hn
theorem Mv.then_ {S : List Nat} {w w1 w2 : World} (h : Mv S S w w1) (hb : Below w1.heap.size w1 w2) : Mv S S w w2 := Mv.then_below' h hb
theorem GrowAt.first {g : Nat} {tv wv : Value} {L : List TRow} {w : World} (h : BkAt g tv wv L w) {k : Nat} {r : TRow} (hr : L[k]? = some r) (hm : r.ss = marks k 0 r.ss.length) : GrowAt r.v r.v r.ss k r.ss.length w.heap.size w := by
  have h0 := h.rows r (List.mem_of_getElem? hr)
  refine ⟨h0.v, ?_, Nat.le_refl _, .inl rfl⟩
  rw [← hm]
  exact h0.v
/-- Behind one list's growth and its place in the row of grown lists. -/
theorem grown_next {g : Nat} {tv wv o o' l : Value} {L : List TRow} {G : List (Value × List ByteArray)} {w wo w1 w2 : World} {ob : Obj} {k p : Nat} {r : TRow}
    (hb : BkAt g tv wv L wo) (hG : Grown L G w.heap.size wo) (hlt : ∀ q ∈ bkBlocks g tv wv L, q < w.heap.size) (hk : G.length = k) (hr : L[k]? = some r) (hM : Mv (bkBlocks g tv wv L) (bkBlocks g tv wv L) w wo)
    (ho : wo.ownsRow w.heap.size 22 1 o k (G.map Prod.fst))
    (h1 : Mv r.v.ownBlock.toList r.v.ownBlock.toList wo w1) (ha : GrowAt r.v l r.ss k p wo.heap.size w1) (hp : p ≤ 100000000)
    (hg : (w1.alloc ob).grownBy w2 o.ownBlock) (ho' : w2.ownsRow w.heap.size 22 1 o' (k + 1) (G.map Prod.fst ++ [l])) :
    (G ++ [(l, marks k 0 p)]).length = k + 1 ∧ w2.ownsRow w.heap.size 22 1 o' (k + 1) ((G ++ [(l, marks k 0 p)]).map Prod.fst) ∧ Grown L (G ++ [(l, marks k 0 p)]) w.heap.size w2 ∧ BkAt g tv wv L w2 ∧ Mv (bkBlocks g tv wv L) (bkBlocks g tv wv L) w w2 := by
  subst hk
  have hk1 : ∀ q, q < wo.heap.size → r.v.ownBlock ≠ some q → w1.heap[q]? = wo.heap[q]? := fun q hq hn => h1.block q hq (by simpa using hn)
  have hb1 := hb.grow hr hk1 ha.ov
  have hG1 := Grown.grow hb hG hlt hr hk1
  have hz := h1.size
  have hz0 := hM.size
  have hin : ∀ q, r.v.ownBlock = some q → q ∈ bkBlocks g tv wv L := fun q hq => mem_bk.2 (.inr (.inr (.inr (mem_rowBlocks (List.mem_of_getElem? hr) (.inl hq)))))
  have o1 : w1.ownsRow w.heap.size 22 1 o G.length (G.map Prod.fst) := own_keep' ho (fun q hq => hk1 q (ho.lt q hq).2 (fun e => by
    have h2 := hlt q (hin q e)
    have h3 := (ho.lt q hq).1
    omega))
  have hG2 := hG1.snoc l p ha.ol hp (fun q hq => by
    rcases ha.at_ with e | e
    · exact .inl ⟨r, hr, by rw [← e]; exact hq⟩
    · exact .inr (by have := e q hq; omega))
  have keep : ∀ q, q < w1.heap.size → o.ownBlock ≠ some q → w2.heap[q]? = w1.heap[q]? := fun q hq hn => (hg.block q (by rw [size_alloc_one]; omega) (fun e => hn e.symm)).trans (Below.heap_alloc w1 ob q hq)
  refine ⟨by simp, by rw [List.map_append]; exact ho', ?_, ?_, ?_⟩
  · exact hG2.keep fun j t hj q hq => by
      have hto := hG2.own t (List.mem_of_getElem? hj)
      exact keep q (hto.lt q hq).2 (own_kinds hto o1 (by decide) hq)
  · exact hb1.keep fun q hq => keep q (hb1.there q hq) (fun e => by
      have h2 := hlt q hq
      have h3 := (o1.lt q e).1
      omega)
  · refine (Mv.step (w1 := w1.alloc ob) ?_ hg (fun q hq => .inr (o1.lt q hq).1))
    refine Mv.alloc ?_ _
    refine ⟨h1.os.trans hM.os, h1.tape.trans hM.tape, h1.output.trans hM.output, by omega, fun q hq hn => ?_, fun _ h => .inl h⟩
    rw [hk1 q (by omega) (fun e => hn (hin q e))]
    exact hM.block q hq hn
set_option maxHeartbeats 8000000 in
theorem grow_any (g : Nat) (tv wv : Value) (L : List TRow) (w : World) (h : BkAt g tv wv L w) (hmk : ∀ k r, L[k]? = some r → r.ss = marks k 0 r.ss.length) (hsm : ∀ r ∈ L, r.ss.length ≤ 10000000) :
    Calls Tryz.prog 63 #[.pointer (some ⟨g, 0, none⟩)] w fun e w' => ∃ ov G, e = .returned ov ∧ G.length = L.length ∧ w'.ownsRow w.heap.size 22 1 ov L.length (G.map Prod.fst) ∧ Grown L G w.heap.size w' ∧ BkAt g tv wv L w' ∧ Mv (bkBlocks g tv wv L) (bkBlocks g tv wv L) w w' := by
  obtain ⟨i0, hinf, hz0, hz1, hz2⟩ := info_parts bk_info_str
  obtain ⟨i1, hinf1, hy0, hy1, hy2⟩ := info_parts bk_info_list
  obtain ⟨A1, c1, rfl, hc1⟩ := own_form h.ot
  obtain ⟨n, hn⟩ : ∃ n, L.length = n := ⟨_, rfl⟩
  have hl := h.len
  rw [hn] at hl hc1 ⊢
  have H := Lib.hid h; have HN := Lib.hid hn; have HMK := Lib.hid hmk; have HSM := Lib.hid hsm
  clear h hmk hsm
  rw [hn] at H
  clear hn
  obtain ⟨S, hS⟩ : ∃ S, bkBlocks g (.slice A1 n c1) wv L = S := ⟨_, rfl⟩
  have HSS := Lib.hid hS
  have HLT : Hid (∀ k, k ∈ S → k < w.heap.size) := by show ∀ k, _ → _; rw [← hS]; exact H.out.there
  rw [hS]
  clear hS
  go_enter Tryz.func63, Tryz.ntmps63
  go_wp2
  go_loopw [3, 4] (fun o i wr => ∃ (k : Nat) (G : List (Value × List ByteArray)), k ≤ n ∧ i = .int .i64 k ∧ Hid (G.length = k) ∧ Hid (wr.ownsRow w.heap.size 22 1 o k (G.map Prod.fst)) ∧ Hid (Grown L G w.heap.size wr) ∧ Hid (BkAt g (.slice A1 n c1) wv L wr) ∧ Hid (Mv S S w wr)) (fun _ i _ => n - (intOf i).toNat)
  case atStart => exact ⟨0, [], Nat.zero_le _, rfl, rfl, World.ownsRow_nil _ _ _ _, ⟨by simp, by simp, by simp, by simp⟩, H.out, Mv.refl _ _⟩
  case round =>
    obtain ⟨k, G, hk, rfl, HGL, HO, HG, HB, HM⟩ := hrel
    have e0 : wr.cell? ⟨g, 0, none⟩ = some (.slice A1 n c1) := HB.out.cell rfl
    by_cases hlt : k < n
    · have hot := HB.out.ot
      rw [HN.out] at hot
      obtain ⟨q1, c1', r, e, hr, d0, hcc⟩ := row_at hot HN.out hlt
      injection e with ea _ ec
      subst ea ec
      have hrow := HB.out.rows r (List.mem_of_getElem? hr)
      have hov : wr.ownsRow 0 9 1 r.v r.ss.length (strs r.ss) := hrow.v
      have hlv := HSM.out r (List.mem_of_getElem? hr)
      have HG0 := Lib.hid (GrowAt.first HB.out hr (HMK.out k r hr))
      obtain ⟨A3, c3, hrv, hc3⟩ := own_form hov
      obtain ⟨m, hm⟩ : ∃ m, r.ss.length = m := ⟨_, rfl⟩
      rw [hm] at hlv hrv hc3 HG0
      have d1 := d0
      rw [hrv] at d1
      have b1 : (0 : Int) ≤ (k : Int) := by omega
      have b2 : (k : Int) < (n : Int) := by omega
      have HRV := Lib.hid hrv; have HMM := Lib.hid hm; have HR := Lib.hid hr
      obtain ⟨wo, hwo⟩ : ∃ wo : World, wo = wr := ⟨_, rfl⟩
      subst hwo
      clear hot hrow hov hrv hm hr d0
      go_wp2
      go_loopw [5, 6] (fun l j w6 => ∃ (jn p c : Nat) (A : Option Addr), jn ≤ 12 ∧ Hid (p = m + jn) ∧ p ≤ m + 12 ∧ j = .int .i64 jn ∧ l = .slice A p c ∧ p ≤ c ∧ Hid (GrowAt r.v l r.ss k p wo.heap.size w6) ∧ Hid (Mv r.v.ownBlock.toList r.v.ownBlock.toList wo w6)) (fun _ j _ => 12 - (intOf j).toNat)
      case atStart => exact ⟨0, m, c3, A3, by omega, rfl, by omega, rfl, rfl, hc3, by rw [HRV.out] at HG0 ⊢; exact HG0.out, Mv.refl _ _⟩
      case round =>
        obtain ⟨jn, p, c, A, hj, HP, hpm, rfl, rfl, hpc, HGA, HM6⟩ := hrel
        have hz6 : wo.heap.size ≤ wr.heap.size := HM6.out.size
        by_cases hjlt : jn < 12
        · have qm := markTexts_any k p 1 (by omega) (by omega) (by omega) wr
          clear e0 d1
          go_wp2_with fail
          refine qm.mono ?_
          rintro e w7 ⟨v7, rfl, ho7, hb7⟩
          obtain ⟨A7, c7, rfl, hc7⟩ := own_form ho7
          have HG7 := Lib.hid (HGA.out.below hb7)
          have HM7 := Lib.hid (HM6.out.then_ hb7)
          have hz7 : wr.heap.size ≤ w7.heap.size := hb7.size
          have hol := HG7.out.ol
          have hrd := Reads.of_own ho7
          clear qm hb7 HGA HM6
          go_wp2_with (at_builtin; refine wpList_append_keep rfl _ _ 22 rfl 0 9 i0 (.string ⟨#[]⟩) 1 16 Tryz.underlying22 hinf hz0 hz1 hz2 rfl (by decide) (.slice A p c) p (strs (marks k 0 p)) rfl hol w7.heap.size A7 1 c7 (strs (marks k p 1)) rfl hrd ?d2 ?d3 ?d4 (Nat.zero_le _) ?_)
          case d2 => intro u hu; unfold strs at hu; obtain ⟨_, _, rfl⟩ := List.mem_map.1 hu; rfl
          case d3 => unfold maxLen; omega
          case d4 => omega
          intro v8 w8 ho8 hk8 hg8 hl8
          have HG8 := Lib.hid (HG7.out.step ho8 hk8 hg8 hl8 (by omega))
          have HM8 := Lib.hid (HM7.out.step hg8 (fun q hq => by
            rcases HG7.out.at_ with e | e
            · exact .inl (by rw [← e, hq]; simp)
            · exact .inr (e q hq)))
          obtain ⟨A8, c8, rfl, hc8⟩ := own_form ho8
          clear ho8 hk8 hg8 hl8 hol hrd ho7 HG7 HM7
          go_wp2
          go_roundw
          case rel => exact ⟨jn + 1, p + 1, c8, A8, hjlt, by show _ = _; have := HP.out; omega, by have := HP.out; omega, by go_num, rfl, hc8, HG8.out, HM8.out⟩
          case measure => simp [intOf]; omega
        · have qm := markTexts_any k p 60 (by omega) (by omega) (by omega) wr
          clear e0 d1
          go_wp2_with fail
          refine qm.mono ?_
          rintro e w7 ⟨v7, rfl, ho7, hb7⟩
          obtain ⟨A7, c7, rfl, hc7⟩ := own_form ho7
          have HG7 := Lib.hid (HGA.out.below hb7)
          have HM7 := Lib.hid (HM6.out.then_ hb7)
          have hz7 : wr.heap.size ≤ w7.heap.size := hb7.size
          have hol := HG7.out.ol
          have hrd := Reads.of_own ho7
          clear qm hb7 HGA HM6
          go_wp2_with (at_builtin; refine wpList_append_keep rfl _ _ 22 rfl 0 9 i0 (.string ⟨#[]⟩) 1 16 Tryz.underlying22 hinf hz0 hz1 hz2 rfl (by decide) (.slice A p c) p (strs (marks k 0 p)) rfl hol w7.heap.size A7 60 c7 (strs (marks k p 60)) rfl hrd ?d2 ?d3 ?d4 (Nat.zero_le _) ?_)
          case d2 => intro u hu; unfold strs at hu; obtain ⟨_, _, rfl⟩ := List.mem_map.1 hu; rfl
          case d3 => unfold maxLen; omega
          case d4 => omega
          intro v8 w8 ho8 hk8 hg8 hl8
          have HG8 := Lib.hid (HG7.out.step ho8 hk8 hg8 hl8 (by omega))
          have HM8 := Lib.hid (HM7.out.step hg8 (fun q hq => by
            rcases HG7.out.at_ with e | e
            · exact .inl (by rw [← e, hq]; simp)
            · exact .inr (e q hq)))
          have hz8 : w7.heap.size ≤ w8.heap.size := hg8.size
          obtain ⟨A8, c8, rfl, hc8⟩ := own_form ho8
          have hout := own_keep' HO.out (fun q hq => HM8.out.block q (HO.out.lt q hq).2 (fun e => by
            have h1 := (HO.out.lt q hq).1
            have h2 := HLT.out q (by rw [← HSS.out]; exact mem_bk.2 (.inr (.inr (.inr (mem_rowBlocks (List.mem_of_getElem? HR.out) (.inl (by simpa using e)))))))
            omega))
          have hzw : w.heap.size ≤ w8.heap.size := by have := HM.out.size; omega
          clear ho8 hk8 hg8 hl8 hol hrd ho7 HG7 HM7
          go_wp2_with (at_builtin; refine wpList_append_any _ rfl _ _ 26 rfl w.heap.size 22 i1 (.slice none 0 0) 1 24 Tryz.underlying26 hinf1 hy0 hy1 hy2 rfl (by decide) _ k (G.map Prod.fst) rfl (hout.alloc _) (w8.heap.size + 1) (some ⟨w8.heap.size, 0, none⟩) 1 1 [.slice A8 (p + 60) c8] rfl ?d5 ?d6 ?d7 ?d8 ?d9 ?_)
          case d5 => exact reads_newV w8 _ _ _ rfl rfl rfl (Nat.lt_succ_self _)
          case d6 => simp [Value.oneCell']
          case d7 => unfold maxLen; omega
          case d8 => omega
          case d9 => simp; omega
          intro v9 w9 ho9 hg9 hl9
          have hS := HSS.out
          have hnx := grown_next (HB.out) HG.out (by rw [hS]; exact HLT.out) HGL.out HR.out (by rw [hS]; exact HM.out) HO.out HM8.out HG8.out (by omega) hg9 ho9
          rw [hS] at hnx
          have HNX := Lib.hid hnx
          clear hnx ho9 hg9 hl9 hout hS HB HG HO HM8 HG8
          go_wp2
          go_roundw
          case rel => exact ⟨k + 1, G ++ [(Value.slice A8 (p + 60) c8, marks k 0 (p + 60))], hlt, by go_num, HNX.out.1, HNX.out.2.1, HNX.out.2.2.1, HNX.out.2.2.2.1, HNX.out.2.2.2.2⟩
          case measure => simp [intOf]; omega
    · obtain rfl : k = n := by omega
      go_wp2
      go_ret
      exact ⟨_, G, rfl, HGL.out, HO.out, HG.out, HB.out, HM.out⟩
end Go.Proofs.YtlniafpbkhkkaaaGreat
