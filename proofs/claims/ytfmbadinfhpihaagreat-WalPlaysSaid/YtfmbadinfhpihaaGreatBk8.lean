/-
  The book with lists of texts: Apart as a contract.
  Conditions: lists that nobody else holds, each as its copy.
-/
import Derived.Test.YtfmbadinfhpihaaGreatBk7
import Derived.Test.YtfmbadinfhpihaaGreatBkE
set_option linter.unusedVariables false
set_option linter.unusedSimpArgs false
namespace Go.Proofs.YtfmbadinfhpihaaGreat.Bk
open Go.RowKit
attribute [local go_sem ↓] Go.wp_at_zero Go.wp_at_succ
set_option maxRecDepth 100000

theorem markN_all {L : List TRow} {k : Nat} {r : TRow} (h : (markN L.length L)[k]? = some r) : r.ss = marks k 0 r.ss.length := by
  rw [markN_get] at h
  cases hk : L[k]? with
  | none => rw [hk] at h; cases h
  | some t =>
    rw [hk] at h
    have hlt := (List.getElem?_eq_some_iff.1 hk).1
    simp only [Option.map_some, if_pos hlt, Option.some.injEq] at h
    subst h
    simp [markR, marks_len]
theorem markN_small {L : List TRow} {n : Nat} (h : ∀ r ∈ L, r.ss.length ≤ n) : ∀ r ∈ markN L.length L, r.ss.length ≤ n := by
  intro r hr
  obtain ⟨k, hk⟩ := List.getElem?_of_mem hr
  rw [markN_get] at hk
  cases ht : L[k]? with
  | none => rw [ht] at hk; cases hk
  | some t =>
    rw [ht] at hk
    have hlt := (List.getElem?_eq_some_iff.1 ht).1
    simp only [Option.map_some, if_pos hlt, Option.some.injEq] at hk
    subst hk
    simpa [markR, marks_len] using h t (List.mem_of_getElem? ht)
def pairsOf (L : List TRow) : List (Value × List ByteArray) := L.map fun r => (r.v, r.ss)
theorem marked_book {g : Nat} {tv wv : Value} {L : List TRow} {w : World} (h : BkAt g tv wv L w) (hm : ∀ k r, L[k]? = some r → r.ss = marks k 0 r.ss.length) (hs : ∀ r ∈ L, r.ss.length ≤ 10000000) :
    Calls Tryz.prog 127 #[tv] w fun e w' => e = .returned (.bool true) ∧ Below w.heap.size w w' := by
  refine marked_any 0 0 tv (pairsOf L) w ?_ (by simpa [pairsOf] using h.len) ?_ ?_
  · have e : (pairsOf L).map Prod.fst = L.map TRow.v := by simp [pairsOf]
    rw [e, show (pairsOf L).length = L.length by simp [pairsOf]]
    exact h.ot
  · intro r hr
    unfold pairsOf at hr
    obtain ⟨t, ht, rfl⟩ := List.mem_map.1 hr
    exact ⟨(h.rows t ht).v, Nat.le_trans (hs t ht) (by decide)⟩
  · intro k r hr
    unfold pairsOf at hr
    rw [List.getElem?_map] at hr
    cases ht : L[k]? with
    | none => rw [ht] at hr; cases hr
    | some t =>
      rw [ht] at hr
      simp only [Option.map_some, Option.some.injEq] at hr
      subst hr
      exact hm k t ht
set_option maxHeartbeats 20000000 in
theorem apart_any (g : Nat) (tv wv : Value) (L : List TRow) (w : World) (h : BkAt g tv wv L w) (hc : ∀ r ∈ L, r.mm = r.ss) (hs : ∀ r ∈ L, r.ss.length ≤ 10000000) :
    Calls Tryz.prog 38 #[.pointer (some ⟨g, 0, none⟩)] w fun e w' => e = .returned (.bool true) ∧ Mv (bkBlocks g tv wv L) (bkBlocks g tv wv L) w w' := by
  obtain ⟨S, hS⟩ : ∃ S, bkBlocks g tv wv L = S := ⟨_, rfl⟩
  have HS := Lib.hid hS; have H := Lib.hid h; have HC := Lib.hid hc; have HSM := Lib.hid hs
  rw [hS]
  clear h hc hs hS
  go_enter Tryz.func38, Tryz.ntmps38
  go_wp2_with fail
  refine (still_any g tv wv L w H.out HC.out).mono ?_
  rintro e w1 ⟨rfl, q, hq⟩
  have HB1 : Hid (BkAt g tv wv L w1) := by show BkAt _ _ _ _ _; rw [hq]; exact H.out.drewN q
  have HM1 : Hid (Mv S S w w1) := by show Mv _ _ _ _; rw [hq]; exact (Mv.refl _ _).drewN q
  clear hq
  go_wp2_with fail
  refine (stillInts_none g w1 (HB1.out.cell rfl)).mono ?_
  rintro e w' ⟨rfl, rfl⟩
  go_wp2_with fail
  refine (stillKeys_none g w1 (HB1.out.cell rfl)).mono ?_
  rintro e w' ⟨rfl, rfl⟩
  go_wp2_with fail
  refine (stillPostings_none g w1 (HB1.out.cell rfl)).mono ?_
  rintro e w' ⟨rfl, rfl⟩
  go_wp2_with fail
  refine (stillParties_none g w1 (HB1.out.cell rfl)).mono ?_
  rintro e w' ⟨rfl, rfl⟩
  go_wp2_with fail
  refine (stillAccounts_none g w1 (HB1.out.cell rfl)).mono ?_
  rintro e w' ⟨rfl, rfl⟩
  go_wp2_with fail
  refine (stillAssets_none g w1 (HB1.out.cell rfl)).mono ?_
  rintro e w' ⟨rfl, rfl⟩
  go_wp2_with fail
  refine (stillInsts_none g w1 (HB1.out.cell rfl)).mono ?_
  rintro e w' ⟨rfl, rfl⟩
  go_wp2_with fail
  refine (stillPairs_none g w1 (HB1.out.cell rfl)).mono ?_
  rintro e w' ⟨rfl, rfl⟩
  go_wp2_with fail
  refine (stillAllegs_none g w1 (HB1.out.cell rfl)).mono ?_
  rintro e w' ⟨rfl, rfl⟩
  go_wp2_with fail
  refine (stillLinks_none g w1 (HB1.out.cell rfl)).mono ?_
  rintro e w' ⟨rfl, rfl⟩
  go_wp2_with fail
  refine (stillPledges_none g w1 (HB1.out.cell rfl)).mono ?_
  rintro e w' ⟨rfl, rfl⟩
  go_wp2_with fail
  refine (stillLoans_none g w1 (HB1.out.cell rfl)).mono ?_
  rintro e w' ⟨rfl, rfl⟩
  go_wp2_with fail
  refine (stillTakes_none g w1 (HB1.out.cell rfl)).mono ?_
  rintro e w' ⟨rfl, rfl⟩
  go_wp2_with fail
  refine (stillLegs_none g w1 (HB1.out.cell rfl)).mono ?_
  rintro e w' ⟨rfl, rfl⟩
  go_wp2_with fail
  refine (stillStocks_none g w1 (HB1.out.cell rfl)).mono ?_
  rintro e w' ⟨rfl, rfl⟩
  go_wp2_with fail
  refine (stillSteps_none g w1 (HB1.out.cell rfl)).mono ?_
  rintro e w' ⟨rfl, rfl⟩
  go_wp2_with fail
  refine (putAllegs_none g w1 (HB1.out.cell rfl)).mono ?_
  rintro e w' ⟨rfl, rfl⟩
  go_wp2_with fail
  refine (putLoans_none g w1 (HB1.out.cell rfl)).mono ?_
  rintro e w' ⟨rfl, rfl⟩
  go_wp2_with fail
  refine (putTakes_none g w1 (HB1.out.cell rfl)).mono ?_
  rintro e w' ⟨rfl, rfl⟩
  go_wp2_with fail
  refine (putSteps_none g w1 (HB1.out.cell rfl)).mono ?_
  rintro e w' ⟨rfl, rfl⟩
  go_wp2_with fail
  refine (put_any g tv wv L w1 HB1.out).mono ?_
  rintro e w2 ⟨rfl, hb2, hm2⟩
  have HM2 : Hid (Mv S S w w2) := by have h := HS.out; rw [h] at hm2; exact HM1.out.trans hm2
  obtain ⟨L', hL'⟩ : ∃ L', markN L.length L = L' := ⟨_, rfl⟩
  have HS2 : Hid (bkBlocks g tv wv L' = S) := by show _ = _; rw [← hL', bkBlocks_mark]; exact HS.out
  have HMK : Hid (∀ k r, L'[k]? = some r → r.ss = marks k 0 r.ss.length) := by subst hL'; exact fun k r h => markN_all h
  have HSM2 : Hid (∀ r ∈ L', r.ss.length ≤ 10000000) := by subst hL'; exact markN_small HSM.out
  rw [hL'] at hb2
  have HB2 := Lib.hid hb2
  clear hb2 hm2 hL' HB1 HM1
  go_wp2_with fail
  refine (putInts_none g w2 (HB2.out.cell rfl)).mono ?_
  rintro e w' ⟨rfl, rfl⟩
  go_wp2_with fail
  refine (putKeys_none g w2 (HB2.out.cell rfl)).mono ?_
  rintro e w' ⟨rfl, rfl⟩
  go_wp2_with fail
  refine (putPostings_none g w2 (HB2.out.cell rfl)).mono ?_
  rintro e w' ⟨rfl, rfl⟩
  go_wp2_with fail
  refine (putParties_none g w2 (HB2.out.cell rfl)).mono ?_
  rintro e w' ⟨rfl, rfl⟩
  go_wp2_with fail
  refine (putAccounts_none g w2 (HB2.out.cell rfl)).mono ?_
  rintro e w' ⟨rfl, rfl⟩
  go_wp2_with fail
  refine (putAssets_none g w2 (HB2.out.cell rfl)).mono ?_
  rintro e w' ⟨rfl, rfl⟩
  go_wp2_with fail
  refine (putInsts_none g w2 (HB2.out.cell rfl)).mono ?_
  rintro e w' ⟨rfl, rfl⟩
  go_wp2_with fail
  refine (putPairs_none g w2 (HB2.out.cell rfl)).mono ?_
  rintro e w' ⟨rfl, rfl⟩
  go_wp2_with fail
  refine (putLinks_none g w2 (HB2.out.cell rfl)).mono ?_
  rintro e w' ⟨rfl, rfl⟩
  go_wp2_with fail
  refine (putPledges_none g w2 (HB2.out.cell rfl)).mono ?_
  rintro e w' ⟨rfl, rfl⟩
  go_wp2_with fail
  refine (putLegs_none g w2 (HB2.out.cell rfl)).mono ?_
  rintro e w' ⟨rfl, rfl⟩
  go_wp2_with fail
  refine (putStocks_none g w2 (HB2.out.cell rfl)).mono ?_
  rintro e w' ⟨rfl, rfl⟩
  go_wp2_with fail
  refine (grow_any g tv wv L' w2 HB2.out HMK.out HSM2.out).mono ?_
  rintro e w3 ⟨ov, G, rfl, hGL, hov, hG, hb3, hm3⟩
  have HM3 : Hid (Mv S S w w3) := by have h := HS2.out; rw [h] at hm3; exact HM2.out.trans hm3
  have HG := Lib.hid hG; have HGL := Lib.hid hGL; have HOV := Lib.hid hov; have HB3 := Lib.hid hb3
  obtain ⟨Ao, co, rfl, _⟩ := own_form hov
  clear hGL hov hG hb3 hm3 HB2 HM2
  go_wp2_with fail
  refine (growInts_none g w3 (HB3.out.cell rfl)).mono ?_
  rintro e w' ⟨rfl, rfl⟩
  go_wp2_with fail
  refine (growKeys_none g w3 (HB3.out.cell rfl)).mono ?_
  rintro e w' ⟨rfl, rfl⟩
  go_wp2_with fail
  refine (growPostings_none g w3 (HB3.out.cell rfl)).mono ?_
  rintro e w' ⟨rfl, rfl⟩
  go_wp2_with fail
  refine (growParties_none g w3 (HB3.out.cell rfl)).mono ?_
  rintro e w' ⟨rfl, rfl⟩
  go_wp2_with fail
  refine (growAccounts_none g w3 (HB3.out.cell rfl)).mono ?_
  rintro e w' ⟨rfl, rfl⟩
  go_wp2_with fail
  refine (growAssets_none g w3 (HB3.out.cell rfl)).mono ?_
  rintro e w' ⟨rfl, rfl⟩
  go_wp2_with fail
  refine (growInsts_none g w3 (HB3.out.cell rfl)).mono ?_
  rintro e w' ⟨rfl, rfl⟩
  go_wp2_with fail
  refine (growPairs_none g w3 (HB3.out.cell rfl)).mono ?_
  rintro e w' ⟨rfl, rfl⟩
  go_wp2_with fail
  refine (growAllegs_none g w3 (HB3.out.cell rfl)).mono ?_
  rintro e w' ⟨rfl, rfl⟩
  go_wp2_with fail
  refine (growLinks_none g w3 (HB3.out.cell rfl)).mono ?_
  rintro e w' ⟨rfl, rfl⟩
  go_wp2_with fail
  refine (growPledges_none g w3 (HB3.out.cell rfl)).mono ?_
  rintro e w' ⟨rfl, rfl⟩
  go_wp2_with fail
  refine (growLoans_none g w3 (HB3.out.cell rfl)).mono ?_
  rintro e w' ⟨rfl, rfl⟩
  go_wp2_with fail
  refine (growTakes_none g w3 (HB3.out.cell rfl)).mono ?_
  rintro e w' ⟨rfl, rfl⟩
  go_wp2_with fail
  refine (growLegs_none g w3 (HB3.out.cell rfl)).mono ?_
  rintro e w' ⟨rfl, rfl⟩
  go_wp2_with fail
  refine (growStocks_none g w3 (HB3.out.cell rfl)).mono ?_
  rintro e w' ⟨rfl, rfl⟩
  go_wp2_with fail
  refine (growSteps_none g w3 (HB3.out.cell rfl)).mono ?_
  rintro e w' ⟨rfl, rfl⟩
  have hll := HB3.out.len
  have qm := marked_any w2.heap.size 0 (.slice Ao L'.length co) G w3 (by rw [HGL.out]; exact HOV.out) (by rw [HGL.out]; exact hll) (fun r hr => ⟨HG.out.own r hr, HG.out.len r hr⟩) HG.out.mark
  clear hll
  go_wp2_with fail
  refine qm.mono ?_
  rintro e w4 ⟨rfl, hb34⟩
  have HB4 := Lib.hid (HB3.out.below hb34)
  have HM4 : Hid (Mv S S w w4) := Mv.then_below' HM3.out hb34
  clear hb34 qm HB3 HM3 HG HGL HOV
  have c0 : w4.cell? ⟨g, 0, none⟩ = some tv := HB4.out.cell rfl
  go_wp2_with fail
  refine (marked_book HB4.out HMK.out HSM2.out).mono ?_
  rintro e w5 ⟨rfl, hb45⟩
  have HB5 := Lib.hid (HB4.out.below hb45)
  have HM5 : Hid (Mv S S w w5) := Mv.then_below' HM4.out hb45
  clear c0 hb45 HB4 HM4
  have c1 : w5.cell? ⟨g, 2, none⟩ = some (.slice none 0 0) := HB5.out.cell rfl
  have c2 : w5.cell? ⟨g, 4, none⟩ = some (.slice none 0 0) := HB5.out.cell rfl
  have c3 : w5.cell? ⟨g, 6, none⟩ = some (.slice none 0 0) := HB5.out.cell rfl
  have c4 : w5.cell? ⟨g, 8, none⟩ = some (.slice none 0 0) := HB5.out.cell rfl
  have c5 : w5.cell? ⟨g, 10, none⟩ = some (.slice none 0 0) := HB5.out.cell rfl
  have c6 : w5.cell? ⟨g, 12, none⟩ = some (.slice none 0 0) := HB5.out.cell rfl
  have c7 : w5.cell? ⟨g, 14, none⟩ = some (.slice none 0 0) := HB5.out.cell rfl
  have c8 : w5.cell? ⟨g, 16, none⟩ = some (.slice none 0 0) := HB5.out.cell rfl
  have c9 : w5.cell? ⟨g, 18, none⟩ = some (.slice none 0 0) := HB5.out.cell rfl
  have c10 : w5.cell? ⟨g, 20, none⟩ = some (.slice none 0 0) := HB5.out.cell rfl
  have c11 : w5.cell? ⟨g, 22, none⟩ = some (.slice none 0 0) := HB5.out.cell rfl
  have c12 : w5.cell? ⟨g, 24, none⟩ = some (.slice none 0 0) := HB5.out.cell rfl
  have c13 : w5.cell? ⟨g, 26, none⟩ = some (.slice none 0 0) := HB5.out.cell rfl
  have c14 : w5.cell? ⟨g, 28, none⟩ = some (.slice none 0 0) := HB5.out.cell rfl
  have c15 : w5.cell? ⟨g, 30, none⟩ = some (.slice none 0 0) := HB5.out.cell rfl
  have c16 : w5.cell? ⟨g, 32, none⟩ = some (.slice none 0 0) := HB5.out.cell rfl
  go_wp2_with fail
  refine (markedInts_none w5).mono ?_
  rintro e w' ⟨rfl, rfl⟩
  go_wp2_with fail
  refine (markedInts_none w5).mono ?_
  rintro e w' ⟨rfl, rfl⟩
  go_wp2_with fail
  refine (markedKeys_none w5).mono ?_
  rintro e w' ⟨rfl, rfl⟩
  go_wp2_with fail
  refine (markedKeys_none w5).mono ?_
  rintro e w' ⟨rfl, rfl⟩
  go_wp2_with fail
  refine (markedPostings_none w5).mono ?_
  rintro e w' ⟨rfl, rfl⟩
  go_wp2_with fail
  refine (markedPostings_none w5).mono ?_
  rintro e w' ⟨rfl, rfl⟩
  go_wp2_with fail
  refine (markedParties_none w5).mono ?_
  rintro e w' ⟨rfl, rfl⟩
  go_wp2_with fail
  refine (markedParties_none w5).mono ?_
  rintro e w' ⟨rfl, rfl⟩
  go_wp2_with fail
  refine (markedAccounts_none w5).mono ?_
  rintro e w' ⟨rfl, rfl⟩
  go_wp2_with fail
  refine (markedAccounts_none w5).mono ?_
  rintro e w' ⟨rfl, rfl⟩
  go_wp2_with fail
  refine (markedAssets_none w5).mono ?_
  rintro e w' ⟨rfl, rfl⟩
  go_wp2_with fail
  refine (markedAssets_none w5).mono ?_
  rintro e w' ⟨rfl, rfl⟩
  go_wp2_with fail
  refine (markedInsts_none w5).mono ?_
  rintro e w' ⟨rfl, rfl⟩
  go_wp2_with fail
  refine (markedInsts_none w5).mono ?_
  rintro e w' ⟨rfl, rfl⟩
  go_wp2_with fail
  refine (markedPairs_none w5).mono ?_
  rintro e w' ⟨rfl, rfl⟩
  go_wp2_with fail
  refine (markedPairs_none w5).mono ?_
  rintro e w' ⟨rfl, rfl⟩
  go_wp2_with fail
  refine (markedAllegs_none w5).mono ?_
  rintro e w' ⟨rfl, rfl⟩
  go_wp2_with fail
  refine (markedAllegs_none w5).mono ?_
  rintro e w' ⟨rfl, rfl⟩
  go_wp2_with fail
  refine (markedLinks_none w5).mono ?_
  rintro e w' ⟨rfl, rfl⟩
  go_wp2_with fail
  refine (markedLinks_none w5).mono ?_
  rintro e w' ⟨rfl, rfl⟩
  go_wp2_with fail
  refine (markedPledges_none w5).mono ?_
  rintro e w' ⟨rfl, rfl⟩
  go_wp2_with fail
  refine (markedPledges_none w5).mono ?_
  rintro e w' ⟨rfl, rfl⟩
  go_wp2_with fail
  refine (markedLoans_none w5).mono ?_
  rintro e w' ⟨rfl, rfl⟩
  go_wp2_with fail
  refine (markedLoans_none w5).mono ?_
  rintro e w' ⟨rfl, rfl⟩
  go_wp2_with fail
  refine (markedTakes_none w5).mono ?_
  rintro e w' ⟨rfl, rfl⟩
  go_wp2_with fail
  refine (markedTakes_none w5).mono ?_
  rintro e w' ⟨rfl, rfl⟩
  go_wp2_with fail
  refine (markedLegs_none w5).mono ?_
  rintro e w' ⟨rfl, rfl⟩
  go_wp2_with fail
  refine (markedLegs_none w5).mono ?_
  rintro e w' ⟨rfl, rfl⟩
  go_wp2_with fail
  refine (markedStocks_none w5).mono ?_
  rintro e w' ⟨rfl, rfl⟩
  go_wp2_with fail
  refine (markedStocks_none w5).mono ?_
  rintro e w' ⟨rfl, rfl⟩
  go_wp2_with fail
  refine (markedSteps_none w5).mono ?_
  rintro e w' ⟨rfl, rfl⟩
  go_wp2_with fail
  refine (markedSteps_none w5).mono ?_
  rintro e w' ⟨rfl, rfl⟩
  go_wp2
  go_ret
  exact ⟨rfl, HM5.out⟩
end Go.Proofs.YtfmbadinfhpihaaGreat.Bk
