/-
 The book with parties, accounts, assets: Apart as a contract.
 Conditions: lists that nobody else holds, each as its copy.
-/
import Derived.Test.YtnpkplegeddhcaaGreatBk3
import Derived.Test.YtnpkplegeddhcaaGreatBkE
namespace Go.Proofs.YtnpkplegeddhcaaGreat
open Go.RowKit Kb
attribute [local go_sem ↓] Go.wp_at_zero Go.wp_at_succ
set_option maxRecDepth 100000
set_option maxHeartbeats 20000000 in
theorem apart3_any (g : Nat) (bc : Array Value) (tp wp ta wa ts ws : Value) (Lp : List (KRow Party)) (La : List (KRow Account)) (Ls : List (KRow Asset)) (w : World) (h : Bk3 g bc tp wp ta wa ts ws Lp La Ls w)
  (hcp : ∀ r ∈ Lp, r.mm = r.ss) (hca : ∀ r ∈ La, r.mm = r.ss) (hcs : ∀ r ∈ Ls, r.mm = r.ss) (hsp : ∀ r ∈ Lp, r.ss.length ≤ 10000000) (hsa : ∀ r ∈ La, r.ss.length ≤ 10000000) (hss : ∀ r ∈ Ls, r.ss.length ≤ 10000000) :
  Calls Tryz.prog 47 #[.pointer (some ⟨g, 0, none⟩)] w fun e w' => e = .returned (.bool true) ∧ Mv (b3 g tp wp ta wa ts ws Lp La Ls) (b3 g tp wp ta wa ts ws Lp La Ls) w w' := by
 obtain ⟨S, hS⟩ : ∃ S, b3 g tp wp ta wa ts ws Lp La Ls = S := ⟨_, rfl⟩
 rw [hS]
 have HSp : Hid (∀ k ∈ bkBlocks g tp wp Lp, k ∈ S) := by show ∀ k, _ → _; rw [← hS]; unfold b3; intro k hk; simp [hk]
 have HSa : Hid (∀ k ∈ bkBlocks g ta wa La, k ∈ S) := by show ∀ k, _ → _; rw [← hS]; unfold b3; intro k hk; simp [hk]
 have HSs : Hid (∀ k ∈ bkBlocks g ts ws Ls, k ∈ S) := by show ∀ k, _ → _; rw [← hS]; unfold b3; intro k hk; simp [hk]
 have HB0 := Lib.hid h; have HCp := Lib.hid hcp; have HCa := Lib.hid hca; have HCs := Lib.hid hcs
 have HZp := Lib.hid hsp; have HZa := Lib.hid hsa; have HZs := Lib.hid hss
 have HM0 : Hid (Mv S S w w) := Mv.refl _ _
 clear h hcp hca hcs hsp hsa hss hS
 go_enter Tryz.func47, Tryz.ntmps47
 go_wp2_with fail
 refine (stillTexts_none g w (HB0.out.nil 0 (by decide) (by decide))).mono ?_
 rintro e w' ⟨rfl, rfl⟩
 go_wp2_with fail
 refine (stillInts_none g w (HB0.out.nil 2 (by decide) (by decide))).mono ?_
 rintro e w' ⟨rfl, rfl⟩
 go_wp2_with fail
 refine (stillKeys_none g w (HB0.out.nil 4 (by decide) (by decide))).mono ?_
 rintro e w' ⟨rfl, rfl⟩
 go_wp2_with fail
 refine (stillPostings_none g w (HB0.out.nil 6 (by decide) (by decide))).mono ?_
 rintro e w' ⟨rfl, rfl⟩
 go_wp2_with fail
 refine (KPa.still_any g bc tp wp Lp w HB0.out.p HCp.out).mono ?_
 rintro e w1 ⟨rfl, q, hq⟩
 have HB1 : Hid (Bk3 g bc tp wp ta wa ts ws Lp La Ls w1) := by show Bk3 _ _ _ _ _ _ _ _ _ _ _ _; rw [hq]; exact HB0.out.drewN q
 have HM1 : Hid (Mv S S w w1) := by show Mv _ _ _ _; rw [hq]; exact HM0.out.drewN q
 clear hq HB0 HM0
 go_wp2_with fail
 refine (KAc.still_any g bc ta wa La w1 HB1.out.a HCa.out).mono ?_
 rintro e w2 ⟨rfl, q, hq⟩
 have HB2 : Hid (Bk3 g bc tp wp ta wa ts ws Lp La Ls w2) := by show Bk3 _ _ _ _ _ _ _ _ _ _ _ _; rw [hq]; exact HB1.out.drewN q
 have HM2 : Hid (Mv S S w w2) := by show Mv _ _ _ _; rw [hq]; exact HM1.out.drewN q
 clear hq HB1 HM1
 go_wp2_with fail
 refine (KAs.still_any g bc ts ws Ls w2 HB2.out.s HCs.out).mono ?_
 rintro e w3 ⟨rfl, q, hq⟩
 have HB3 : Hid (Bk3 g bc tp wp ta wa ts ws Lp La Ls w3) := by show Bk3 _ _ _ _ _ _ _ _ _ _ _ _; rw [hq]; exact HB2.out.drewN q
 have HM3 : Hid (Mv S S w w3) := by show Mv _ _ _ _; rw [hq]; exact HM2.out.drewN q
 clear hq HB2 HM2
 go_wp2_with fail
 refine (stillInsts_none g w3 (HB3.out.nil 14 (by decide) (by decide))).mono ?_
 rintro e w' ⟨rfl, rfl⟩
 go_wp2_with fail
 refine (stillPairs_none g w3 (HB3.out.nil 16 (by decide) (by decide))).mono ?_
 rintro e w' ⟨rfl, rfl⟩
 go_wp2_with fail
 refine (stillAllegs_none g w3 (HB3.out.nil 18 (by decide) (by decide))).mono ?_
 rintro e w' ⟨rfl, rfl⟩
 go_wp2_with fail
 refine (stillLinks_none g w3 (HB3.out.nil 20 (by decide) (by decide))).mono ?_
 rintro e w' ⟨rfl, rfl⟩
 go_wp2_with fail
 refine (stillPledges_none g w3 (HB3.out.nil 22 (by decide) (by decide))).mono ?_
 rintro e w' ⟨rfl, rfl⟩
 go_wp2_with fail
 refine (stillLoans_none g w3 (HB3.out.nil 24 (by decide) (by decide))).mono ?_
 rintro e w' ⟨rfl, rfl⟩
 go_wp2_with fail
 refine (stillTakes_none g w3 (HB3.out.nil 26 (by decide) (by decide))).mono ?_
 rintro e w' ⟨rfl, rfl⟩
 go_wp2_with fail
 refine (stillLegs_none g w3 (HB3.out.nil 28 (by decide) (by decide))).mono ?_
 rintro e w' ⟨rfl, rfl⟩
 go_wp2_with fail
 refine (stillStocks_none g w3 (HB3.out.nil 30 (by decide) (by decide))).mono ?_
 rintro e w' ⟨rfl, rfl⟩
 go_wp2_with fail
 refine (stillSteps_none g w3 (HB3.out.nil 32 (by decide) (by decide))).mono ?_
 rintro e w' ⟨rfl, rfl⟩
 go_wp2_with fail
 refine (putAllegs_none g w3 (HB3.out.nil 18 (by decide) (by decide))).mono ?_
 rintro e w' ⟨rfl, rfl⟩
 go_wp2_with fail
 refine (putLoans_none g w3 (HB3.out.nil 24 (by decide) (by decide))).mono ?_
 rintro e w' ⟨rfl, rfl⟩
 go_wp2_with fail
 refine (putTakes_none g w3 (HB3.out.nil 26 (by decide) (by decide))).mono ?_
 rintro e w' ⟨rfl, rfl⟩
 go_wp2_with fail
 refine (putSteps_none g w3 (HB3.out.nil 32 (by decide) (by decide))).mono ?_
 rintro e w' ⟨rfl, rfl⟩
 go_wp2_with fail
 refine (putTexts_none g w3 (HB3.out.nil 0 (by decide) (by decide))).mono ?_
 rintro e w' ⟨rfl, rfl⟩
 go_wp2_with fail
 refine (putInts_none g w3 (HB3.out.nil 2 (by decide) (by decide))).mono ?_
 rintro e w' ⟨rfl, rfl⟩
 go_wp2_with fail
 refine (putKeys_none g w3 (HB3.out.nil 4 (by decide) (by decide))).mono ?_
 rintro e w' ⟨rfl, rfl⟩
 go_wp2_with fail
 refine (putPostings_none g w3 (HB3.out.nil 6 (by decide) (by decide))).mono ?_
 rintro e w' ⟨rfl, rfl⟩
 go_wp2_with fail
 refine (KPa.put_any g bc tp wp Lp w3 HB3.out.p).mono ?_
 rintro e w4 ⟨rfl, hb, hm⟩
 have HM4 : Hid (Mv S S w w4) := HM3.out.trans (Mv.wide hm HSp.out)
 obtain ⟨Lp2, hL⟩ : ∃ Lp2, markN KPa.mk Lp.length Lp = Lp2 := ⟨_, rfl⟩
 have HB4 : Hid (Bk3 g bc tp wp ta wa ts ws Lp2 La Ls w4) := by show Bk3 _ _ _ _ _ _ _ _ _ _ _ _; rw [hL] at hb; exact HB3.out.stepP hb hm
 have HSXp : Hid (∀ k ∈ bkBlocks g tp wp Lp2, k ∈ S) := by show ∀ k, _ → _; rw [← hL, bkBlocks_mark]; exact HSp.out
 have HKp : Hid (∀ k r, Lp2[k]? = some r → r.ss = marks KPa.mk k 0 r.ss.length) := by show ∀ _ _, _ → _; rw [← hL]; exact fun k r h => markN_all h
 have HYp : Hid (∀ r ∈ Lp2, r.ss.length ≤ 10000000) := by show ∀ _, _ → _; rw [← hL]; exact markN_small HZp.out
 clear hb hm hL HB3 HM3
 go_wp2_with fail
 refine (KAc.put_any g bc ta wa La w4 HB4.out.a).mono ?_
 rintro e w5 ⟨rfl, hb, hm⟩
 have HM5 : Hid (Mv S S w w5) := HM4.out.trans (Mv.wide hm HSa.out)
 obtain ⟨La2, hL⟩ : ∃ La2, markN KAc.mk La.length La = La2 := ⟨_, rfl⟩
 have HB5 : Hid (Bk3 g bc tp wp ta wa ts ws Lp2 La2 Ls w5) := by show Bk3 _ _ _ _ _ _ _ _ _ _ _ _; rw [hL] at hb; exact HB4.out.stepA hb hm
 have HSXa : Hid (∀ k ∈ bkBlocks g ta wa La2, k ∈ S) := by show ∀ k, _ → _; rw [← hL, bkBlocks_mark]; exact HSa.out
 have HKa : Hid (∀ k r, La2[k]? = some r → r.ss = marks KAc.mk k 0 r.ss.length) := by show ∀ _ _, _ → _; rw [← hL]; exact fun k r h => markN_all h
 have HYa : Hid (∀ r ∈ La2, r.ss.length ≤ 10000000) := by show ∀ _, _ → _; rw [← hL]; exact markN_small HZa.out
 clear hb hm hL HB4 HM4
 go_wp2_with fail
 refine (KAs.put_any g bc ts ws Ls w5 HB5.out.s).mono ?_
 rintro e w6 ⟨rfl, hb, hm⟩
 have HM6 : Hid (Mv S S w w6) := HM5.out.trans (Mv.wide hm HSs.out)
 obtain ⟨Ls2, hL⟩ : ∃ Ls2, markN KAs.mk Ls.length Ls = Ls2 := ⟨_, rfl⟩
 have HB6 : Hid (Bk3 g bc tp wp ta wa ts ws Lp2 La2 Ls2 w6) := by show Bk3 _ _ _ _ _ _ _ _ _ _ _ _; rw [hL] at hb; exact HB5.out.stepS hb hm
 have HSXs : Hid (∀ k ∈ bkBlocks g ts ws Ls2, k ∈ S) := by show ∀ k, _ → _; rw [← hL, bkBlocks_mark]; exact HSs.out
 have HKs : Hid (∀ k r, Ls2[k]? = some r → r.ss = marks KAs.mk k 0 r.ss.length) := by show ∀ _ _, _ → _; rw [← hL]; exact fun k r h => markN_all h
 have HYs : Hid (∀ r ∈ Ls2, r.ss.length ≤ 10000000) := by show ∀ _, _ → _; rw [← hL]; exact markN_small HZs.out
 clear hb hm hL HB5 HM5
 go_wp2_with fail
 refine (putInsts_none g w6 (HB6.out.nil 14 (by decide) (by decide))).mono ?_
 rintro e w' ⟨rfl, rfl⟩
 go_wp2_with fail
 refine (putPairs_none g w6 (HB6.out.nil 16 (by decide) (by decide))).mono ?_
 rintro e w' ⟨rfl, rfl⟩
 go_wp2_with fail
 refine (putLinks_none g w6 (HB6.out.nil 20 (by decide) (by decide))).mono ?_
 rintro e w' ⟨rfl, rfl⟩
 go_wp2_with fail
 refine (putPledges_none g w6 (HB6.out.nil 22 (by decide) (by decide))).mono ?_
 rintro e w' ⟨rfl, rfl⟩
 go_wp2_with fail
 refine (putLegs_none g w6 (HB6.out.nil 28 (by decide) (by decide))).mono ?_
 rintro e w' ⟨rfl, rfl⟩
 go_wp2_with fail
 refine (putStocks_none g w6 (HB6.out.nil 30 (by decide) (by decide))).mono ?_
 rintro e w' ⟨rfl, rfl⟩
 go_wp2_with fail
 refine (growTexts_none g w6 (HB6.out.nil 0 (by decide) (by decide))).mono ?_
 rintro e w' ⟨rfl, rfl⟩
 go_wp2_with fail
 refine (growInts_none g w6 (HB6.out.nil 2 (by decide) (by decide))).mono ?_
 rintro e w' ⟨rfl, rfl⟩
 go_wp2_with fail
 refine (growKeys_none g w6 (HB6.out.nil 4 (by decide) (by decide))).mono ?_
 rintro e w' ⟨rfl, rfl⟩
 go_wp2_with fail
 refine (growPostings_none g w6 (HB6.out.nil 6 (by decide) (by decide))).mono ?_
 rintro e w' ⟨rfl, rfl⟩
 go_wp2_with fail
 refine (KPa.grow_any g bc tp wp Lp2 w6 HB6.out.p HKp.out HYp.out).mono ?_
 rintro e w7 ⟨ovp, Gp, rfl, hGL, hov, hG, hb, hm⟩
 have HM7 : Hid (Mv S S w w7) := HM6.out.trans (Mv.wide hm HSXp.out)
 have HB7 : Hid (Bk3 g bc tp wp ta wa ts ws Lp2 La2 Ls2 w7) := HB6.out.stepP hb hm
 obtain ⟨Bp, hB⟩ : ∃ B, w6.heap.size = B := ⟨_, rfl⟩
 rw [hB] at hov hG
 have HGp7 := Lib.hid hG; have HOp7 := Lib.hid hov; have HLp := Lib.hid hGL
 clear hGL hov hG hb hm hB HB6 HM6
 go_wp2_with fail
 refine (KAc.grow_any g bc ta wa La2 w7 HB7.out.a HKa.out HYa.out).mono ?_
 rintro e w8 ⟨ova, Ga, rfl, hGL, hov, hG, hb, hm⟩
 have HM8 : Hid (Mv S S w w8) := HM7.out.trans (Mv.wide hm HSXa.out)
 have HB8 : Hid (Bk3 g bc tp wp ta wa ts ws Lp2 La2 Ls2 w8) := HB7.out.stepA hb hm
 obtain ⟨Ba, hB⟩ : ∃ B, w7.heap.size = B := ⟨_, rfl⟩
 rw [hB] at hov hG
 have HGa8 := Lib.hid hG; have HOa8 := Lib.hid hov; have HLa := Lib.hid hGL
 have HGp8 : Hid (Grown KPa.ec _ _ KPa.mk Lp2 Gp Bp w8) := Grown.beside HGp7.out HB7.out.a hm (by decide) (by decide) (by decide)
 have HOp8 : Hid (w8.ownsRow Bp _ 1 ovp Lp2.length (Gp.map Prod.fst)) := own_beside HOp7.out HB7.out.a hm (by decide) (by decide) (by decide)
 clear HGp7 HOp7
 clear hGL hov hG hb hm hB HB7 HM7
 go_wp2_with fail
 refine (KAs.grow_any g bc ts ws Ls2 w8 HB8.out.s HKs.out HYs.out).mono ?_
 rintro e w9 ⟨ovs, Gs, rfl, hGL, hov, hG, hb, hm⟩
 have HM9 : Hid (Mv S S w w9) := HM8.out.trans (Mv.wide hm HSXs.out)
 have HB9 : Hid (Bk3 g bc tp wp ta wa ts ws Lp2 La2 Ls2 w9) := HB8.out.stepS hb hm
 obtain ⟨Bs, hB⟩ : ∃ B, w8.heap.size = B := ⟨_, rfl⟩
 rw [hB] at hov hG
 have HGs9 := Lib.hid hG; have HOs9 := Lib.hid hov; have HLs := Lib.hid hGL
 have HGp9 : Hid (Grown KPa.ec _ _ KPa.mk Lp2 Gp Bp w9) := Grown.beside HGp8.out HB8.out.s hm (by decide) (by decide) (by decide)
 have HOp9 : Hid (w9.ownsRow Bp _ 1 ovp Lp2.length (Gp.map Prod.fst)) := own_beside HOp8.out HB8.out.s hm (by decide) (by decide) (by decide)
 clear HGp8 HOp8
 have HGa9 : Hid (Grown KAc.ec _ _ KAc.mk La2 Ga Ba w9) := Grown.beside HGa8.out HB8.out.s hm (by decide) (by decide) (by decide)
 have HOa9 : Hid (w9.ownsRow Ba _ 1 ova La2.length (Ga.map Prod.fst)) := own_beside HOa8.out HB8.out.s hm (by decide) (by decide) (by decide)
 clear HGa8 HOa8
 clear hGL hov hG hb hm hB HB8 HM8
 go_wp2_with fail
 refine (growInsts_none g w9 (HB9.out.nil 14 (by decide) (by decide))).mono ?_
 rintro e w' ⟨rfl, rfl⟩
 go_wp2_with fail
 refine (growPairs_none g w9 (HB9.out.nil 16 (by decide) (by decide))).mono ?_
 rintro e w' ⟨rfl, rfl⟩
 go_wp2_with fail
 refine (growAllegs_none g w9 (HB9.out.nil 18 (by decide) (by decide))).mono ?_
 rintro e w' ⟨rfl, rfl⟩
 go_wp2_with fail
 refine (growLinks_none g w9 (HB9.out.nil 20 (by decide) (by decide))).mono ?_
 rintro e w' ⟨rfl, rfl⟩
 go_wp2_with fail
 refine (growPledges_none g w9 (HB9.out.nil 22 (by decide) (by decide))).mono ?_
 rintro e w' ⟨rfl, rfl⟩
 go_wp2_with fail
 refine (growLoans_none g w9 (HB9.out.nil 24 (by decide) (by decide))).mono ?_
 rintro e w' ⟨rfl, rfl⟩
 go_wp2_with fail
 refine (growTakes_none g w9 (HB9.out.nil 26 (by decide) (by decide))).mono ?_
 rintro e w' ⟨rfl, rfl⟩
 go_wp2_with fail
 refine (growLegs_none g w9 (HB9.out.nil 28 (by decide) (by decide))).mono ?_
 rintro e w' ⟨rfl, rfl⟩
 go_wp2_with fail
 refine (growStocks_none g w9 (HB9.out.nil 30 (by decide) (by decide))).mono ?_
 rintro e w' ⟨rfl, rfl⟩
 go_wp2_with fail
 refine (growSteps_none g w9 (HB9.out.nil 32 (by decide) (by decide))).mono ?_
 rintro e w' ⟨rfl, rfl⟩
 obtain ⟨Aop, cop, rfl, _⟩ := own_form HOp9.out
 obtain ⟨Aoa, coa, rfl, _⟩ := own_form HOa9.out
 obtain ⟨Aos, cos, rfl, _⟩ := own_form HOs9.out
 have c0 : w9.cell? ⟨g, 0, none⟩ = some (.slice none 0 0) := HB9.out.nil 0 (by decide) (by decide)
 have c1 : w9.cell? ⟨g, 2, none⟩ = some (.slice none 0 0) := HB9.out.nil 2 (by decide) (by decide)
 have c2 : w9.cell? ⟨g, 4, none⟩ = some (.slice none 0 0) := HB9.out.nil 4 (by decide) (by decide)
 have c3 : w9.cell? ⟨g, 6, none⟩ = some (.slice none 0 0) := HB9.out.nil 6 (by decide) (by decide)
 have c4 : w9.cell? ⟨g, 8, none⟩ = some tp := HB9.out.p.cell HB9.out.p.c0
 have c5 : w9.cell? ⟨g, 10, none⟩ = some ta := HB9.out.a.cell HB9.out.a.c0
 have c6 : w9.cell? ⟨g, 12, none⟩ = some ts := HB9.out.s.cell HB9.out.s.c0
 have c7 : w9.cell? ⟨g, 14, none⟩ = some (.slice none 0 0) := HB9.out.nil 14 (by decide) (by decide)
 have c8 : w9.cell? ⟨g, 16, none⟩ = some (.slice none 0 0) := HB9.out.nil 16 (by decide) (by decide)
 have c9 : w9.cell? ⟨g, 18, none⟩ = some (.slice none 0 0) := HB9.out.nil 18 (by decide) (by decide)
 have c10 : w9.cell? ⟨g, 20, none⟩ = some (.slice none 0 0) := HB9.out.nil 20 (by decide) (by decide)
 have c11 : w9.cell? ⟨g, 22, none⟩ = some (.slice none 0 0) := HB9.out.nil 22 (by decide) (by decide)
 have c12 : w9.cell? ⟨g, 24, none⟩ = some (.slice none 0 0) := HB9.out.nil 24 (by decide) (by decide)
 have c13 : w9.cell? ⟨g, 26, none⟩ = some (.slice none 0 0) := HB9.out.nil 26 (by decide) (by decide)
 have c14 : w9.cell? ⟨g, 28, none⟩ = some (.slice none 0 0) := HB9.out.nil 28 (by decide) (by decide)
 have c15 : w9.cell? ⟨g, 30, none⟩ = some (.slice none 0 0) := HB9.out.nil 30 (by decide) (by decide)
 have c16 : w9.cell? ⟨g, 32, none⟩ = some (.slice none 0 0) := HB9.out.nil 32 (by decide) (by decide)
 go_wp2_with fail
 refine (markedTexts_none w9).mono ?_
 rintro e w' ⟨rfl, rfl⟩
 go_wp2_with fail
 refine (markedTexts_none w9).mono ?_
 rintro e w' ⟨rfl, rfl⟩
 go_wp2_with fail
 refine (markedInts_none w9).mono ?_
 rintro e w' ⟨rfl, rfl⟩
 go_wp2_with fail
 refine (markedInts_none w9).mono ?_
 rintro e w' ⟨rfl, rfl⟩
 go_wp2_with fail
 refine (markedKeys_none w9).mono ?_
 rintro e w' ⟨rfl, rfl⟩
 go_wp2_with fail
 refine (markedKeys_none w9).mono ?_
 rintro e w' ⟨rfl, rfl⟩
 go_wp2_with fail
 refine (markedPostings_none w9).mono ?_
 rintro e w' ⟨rfl, rfl⟩
 go_wp2_with fail
 refine (markedPostings_none w9).mono ?_
 rintro e w' ⟨rfl, rfl⟩
 have hll := HB9.out.p.len
 have qm := KPa.marked_any Bp 0 (.slice Aop Lp2.length cop) Gp w9 (by rw [HLp.out]; exact HOp9.out) (by rw [HLp.out]; exact hll) (fun r hr => ⟨HGp9.out.own r hr, HGp9.out.len r hr⟩) HGp9.out.mark
 clear hll
 go_wp2_with fail
 refine qm.mono ?_
 rintro e w10 ⟨rfl, hb⟩
 have HB10 := Lib.hid (HB9.out.below hb)
 have HM10 : Hid (Mv S S w w10) := Mv.then_below' HM9.out hb
 have HGa10 : Hid (Grown KAc.ec _ _ KAc.mk La2 Ga Ba w10) := HGa9.out.keep fun j r hr k hk => hb.block k ((HGa9.out.own r (List.mem_of_getElem? hr)).lt k hk).2
 have HOa10 := Lib.hid (own_below HOa9.out hb (fun k hk => (HOa9.out.lt k hk).2))
 have HGs10 : Hid (Grown KAs.ec _ _ KAs.mk Ls2 Gs Bs w10) := HGs9.out.keep fun j r hr k hk => hb.block k ((HGs9.out.own r (List.mem_of_getElem? hr)).lt k hk).2
 have HOs10 := Lib.hid (own_below HOs9.out hb (fun k hk => (HOs9.out.lt k hk).2))
 clear c4 c5 c6 c7 c8 c9 c10 c11 c12 c13 c14 c15 c16
 clear hb qm HB9 HM9
 have c4 : w10.cell? ⟨g, 8, none⟩ = some tp := HB10.out.p.cell HB10.out.p.c0
 have c5 : w10.cell? ⟨g, 10, none⟩ = some ta := HB10.out.a.cell HB10.out.a.c0
 have c6 : w10.cell? ⟨g, 12, none⟩ = some ts := HB10.out.s.cell HB10.out.s.c0
 have c7 : w10.cell? ⟨g, 14, none⟩ = some (.slice none 0 0) := HB10.out.nil 14 (by decide) (by decide)
 have c8 : w10.cell? ⟨g, 16, none⟩ = some (.slice none 0 0) := HB10.out.nil 16 (by decide) (by decide)
 have c9 : w10.cell? ⟨g, 18, none⟩ = some (.slice none 0 0) := HB10.out.nil 18 (by decide) (by decide)
 have c10 : w10.cell? ⟨g, 20, none⟩ = some (.slice none 0 0) := HB10.out.nil 20 (by decide) (by decide)
 have c11 : w10.cell? ⟨g, 22, none⟩ = some (.slice none 0 0) := HB10.out.nil 22 (by decide) (by decide)
 have c12 : w10.cell? ⟨g, 24, none⟩ = some (.slice none 0 0) := HB10.out.nil 24 (by decide) (by decide)
 have c13 : w10.cell? ⟨g, 26, none⟩ = some (.slice none 0 0) := HB10.out.nil 26 (by decide) (by decide)
 have c14 : w10.cell? ⟨g, 28, none⟩ = some (.slice none 0 0) := HB10.out.nil 28 (by decide) (by decide)
 have c15 : w10.cell? ⟨g, 30, none⟩ = some (.slice none 0 0) := HB10.out.nil 30 (by decide) (by decide)
 have c16 : w10.cell? ⟨g, 32, none⟩ = some (.slice none 0 0) := HB10.out.nil 32 (by decide) (by decide)
 go_wp2_with fail
 refine (KPa.marked_book HB10.out.p HKp.out HYp.out).mono ?_
 rintro e w11 ⟨rfl, hb⟩
 have HB11 := Lib.hid (HB10.out.below hb)
 have HM11 : Hid (Mv S S w w11) := Mv.then_below' HM10.out hb
 have HGa11 : Hid (Grown KAc.ec _ _ KAc.mk La2 Ga Ba w11) := HGa10.out.keep fun j r hr k hk => hb.block k ((HGa10.out.own r (List.mem_of_getElem? hr)).lt k hk).2
 have HOa11 := Lib.hid (own_below HOa10.out hb (fun k hk => (HOa10.out.lt k hk).2))
 have HGs11 : Hid (Grown KAs.ec _ _ KAs.mk Ls2 Gs Bs w11) := HGs10.out.keep fun j r hr k hk => hb.block k ((HGs10.out.own r (List.mem_of_getElem? hr)).lt k hk).2
 have HOs11 := Lib.hid (own_below HOs10.out hb (fun k hk => (HOs10.out.lt k hk).2))
 clear c4 c5 c6 c7 c8 c9 c10 c11 c12 c13 c14 c15 c16
 clear hb HB10 HM10
 have c5 : w11.cell? ⟨g, 10, none⟩ = some ta := HB11.out.a.cell HB11.out.a.c0
 have c6 : w11.cell? ⟨g, 12, none⟩ = some ts := HB11.out.s.cell HB11.out.s.c0
 have c7 : w11.cell? ⟨g, 14, none⟩ = some (.slice none 0 0) := HB11.out.nil 14 (by decide) (by decide)
 have c8 : w11.cell? ⟨g, 16, none⟩ = some (.slice none 0 0) := HB11.out.nil 16 (by decide) (by decide)
 have c9 : w11.cell? ⟨g, 18, none⟩ = some (.slice none 0 0) := HB11.out.nil 18 (by decide) (by decide)
 have c10 : w11.cell? ⟨g, 20, none⟩ = some (.slice none 0 0) := HB11.out.nil 20 (by decide) (by decide)
 have c11 : w11.cell? ⟨g, 22, none⟩ = some (.slice none 0 0) := HB11.out.nil 22 (by decide) (by decide)
 have c12 : w11.cell? ⟨g, 24, none⟩ = some (.slice none 0 0) := HB11.out.nil 24 (by decide) (by decide)
 have c13 : w11.cell? ⟨g, 26, none⟩ = some (.slice none 0 0) := HB11.out.nil 26 (by decide) (by decide)
 have c14 : w11.cell? ⟨g, 28, none⟩ = some (.slice none 0 0) := HB11.out.nil 28 (by decide) (by decide)
 have c15 : w11.cell? ⟨g, 30, none⟩ = some (.slice none 0 0) := HB11.out.nil 30 (by decide) (by decide)
 have c16 : w11.cell? ⟨g, 32, none⟩ = some (.slice none 0 0) := HB11.out.nil 32 (by decide) (by decide)
 have hll := HB11.out.a.len
 have qm := KAc.marked_any Ba 0 (.slice Aoa La2.length coa) Ga w11 (by rw [HLa.out]; exact HOa11.out) (by rw [HLa.out]; exact hll) (fun r hr => ⟨HGa11.out.own r hr, HGa11.out.len r hr⟩) HGa11.out.mark
 clear hll
 go_wp2_with fail
 refine qm.mono ?_
 rintro e w12 ⟨rfl, hb⟩
 have HB12 := Lib.hid (HB11.out.below hb)
 have HM12 : Hid (Mv S S w w12) := Mv.then_below' HM11.out hb
 have HGs12 : Hid (Grown KAs.ec _ _ KAs.mk Ls2 Gs Bs w12) := HGs11.out.keep fun j r hr k hk => hb.block k ((HGs11.out.own r (List.mem_of_getElem? hr)).lt k hk).2
 have HOs12 := Lib.hid (own_below HOs11.out hb (fun k hk => (HOs11.out.lt k hk).2))
 clear c5 c6 c7 c8 c9 c10 c11 c12 c13 c14 c15 c16
 clear hb qm HB11 HM11
 have c5 : w12.cell? ⟨g, 10, none⟩ = some ta := HB12.out.a.cell HB12.out.a.c0
 have c6 : w12.cell? ⟨g, 12, none⟩ = some ts := HB12.out.s.cell HB12.out.s.c0
 have c7 : w12.cell? ⟨g, 14, none⟩ = some (.slice none 0 0) := HB12.out.nil 14 (by decide) (by decide)
 have c8 : w12.cell? ⟨g, 16, none⟩ = some (.slice none 0 0) := HB12.out.nil 16 (by decide) (by decide)
 have c9 : w12.cell? ⟨g, 18, none⟩ = some (.slice none 0 0) := HB12.out.nil 18 (by decide) (by decide)
 have c10 : w12.cell? ⟨g, 20, none⟩ = some (.slice none 0 0) := HB12.out.nil 20 (by decide) (by decide)
 have c11 : w12.cell? ⟨g, 22, none⟩ = some (.slice none 0 0) := HB12.out.nil 22 (by decide) (by decide)
 have c12 : w12.cell? ⟨g, 24, none⟩ = some (.slice none 0 0) := HB12.out.nil 24 (by decide) (by decide)
 have c13 : w12.cell? ⟨g, 26, none⟩ = some (.slice none 0 0) := HB12.out.nil 26 (by decide) (by decide)
 have c14 : w12.cell? ⟨g, 28, none⟩ = some (.slice none 0 0) := HB12.out.nil 28 (by decide) (by decide)
 have c15 : w12.cell? ⟨g, 30, none⟩ = some (.slice none 0 0) := HB12.out.nil 30 (by decide) (by decide)
 have c16 : w12.cell? ⟨g, 32, none⟩ = some (.slice none 0 0) := HB12.out.nil 32 (by decide) (by decide)
 go_wp2_with fail
 refine (KAc.marked_book HB12.out.a HKa.out HYa.out).mono ?_
 rintro e w13 ⟨rfl, hb⟩
 have HB13 := Lib.hid (HB12.out.below hb)
 have HM13 : Hid (Mv S S w w13) := Mv.then_below' HM12.out hb
 have HGs13 : Hid (Grown KAs.ec _ _ KAs.mk Ls2 Gs Bs w13) := HGs12.out.keep fun j r hr k hk => hb.block k ((HGs12.out.own r (List.mem_of_getElem? hr)).lt k hk).2
 have HOs13 := Lib.hid (own_below HOs12.out hb (fun k hk => (HOs12.out.lt k hk).2))
 clear c5 c6 c7 c8 c9 c10 c11 c12 c13 c14 c15 c16
 clear hb HB12 HM12
 have c6 : w13.cell? ⟨g, 12, none⟩ = some ts := HB13.out.s.cell HB13.out.s.c0
 have c7 : w13.cell? ⟨g, 14, none⟩ = some (.slice none 0 0) := HB13.out.nil 14 (by decide) (by decide)
 have c8 : w13.cell? ⟨g, 16, none⟩ = some (.slice none 0 0) := HB13.out.nil 16 (by decide) (by decide)
 have c9 : w13.cell? ⟨g, 18, none⟩ = some (.slice none 0 0) := HB13.out.nil 18 (by decide) (by decide)
 have c10 : w13.cell? ⟨g, 20, none⟩ = some (.slice none 0 0) := HB13.out.nil 20 (by decide) (by decide)
 have c11 : w13.cell? ⟨g, 22, none⟩ = some (.slice none 0 0) := HB13.out.nil 22 (by decide) (by decide)
 have c12 : w13.cell? ⟨g, 24, none⟩ = some (.slice none 0 0) := HB13.out.nil 24 (by decide) (by decide)
 have c13 : w13.cell? ⟨g, 26, none⟩ = some (.slice none 0 0) := HB13.out.nil 26 (by decide) (by decide)
 have c14 : w13.cell? ⟨g, 28, none⟩ = some (.slice none 0 0) := HB13.out.nil 28 (by decide) (by decide)
 have c15 : w13.cell? ⟨g, 30, none⟩ = some (.slice none 0 0) := HB13.out.nil 30 (by decide) (by decide)
 have c16 : w13.cell? ⟨g, 32, none⟩ = some (.slice none 0 0) := HB13.out.nil 32 (by decide) (by decide)
 have hll := HB13.out.s.len
 have qm := KAs.marked_any Bs 0 (.slice Aos Ls2.length cos) Gs w13 (by rw [HLs.out]; exact HOs13.out) (by rw [HLs.out]; exact hll) (fun r hr => ⟨HGs13.out.own r hr, HGs13.out.len r hr⟩) HGs13.out.mark
 clear hll
 go_wp2_with fail
 refine qm.mono ?_
 rintro e w14 ⟨rfl, hb⟩
 have HB14 := Lib.hid (HB13.out.below hb)
 have HM14 : Hid (Mv S S w w14) := Mv.then_below' HM13.out hb
 clear c6 c7 c8 c9 c10 c11 c12 c13 c14 c15 c16
 clear hb qm HB13 HM13
 have c6 : w14.cell? ⟨g, 12, none⟩ = some ts := HB14.out.s.cell HB14.out.s.c0
 have c7 : w14.cell? ⟨g, 14, none⟩ = some (.slice none 0 0) := HB14.out.nil 14 (by decide) (by decide)
 have c8 : w14.cell? ⟨g, 16, none⟩ = some (.slice none 0 0) := HB14.out.nil 16 (by decide) (by decide)
 have c9 : w14.cell? ⟨g, 18, none⟩ = some (.slice none 0 0) := HB14.out.nil 18 (by decide) (by decide)
 have c10 : w14.cell? ⟨g, 20, none⟩ = some (.slice none 0 0) := HB14.out.nil 20 (by decide) (by decide)
 have c11 : w14.cell? ⟨g, 22, none⟩ = some (.slice none 0 0) := HB14.out.nil 22 (by decide) (by decide)
 have c12 : w14.cell? ⟨g, 24, none⟩ = some (.slice none 0 0) := HB14.out.nil 24 (by decide) (by decide)
 have c13 : w14.cell? ⟨g, 26, none⟩ = some (.slice none 0 0) := HB14.out.nil 26 (by decide) (by decide)
 have c14 : w14.cell? ⟨g, 28, none⟩ = some (.slice none 0 0) := HB14.out.nil 28 (by decide) (by decide)
 have c15 : w14.cell? ⟨g, 30, none⟩ = some (.slice none 0 0) := HB14.out.nil 30 (by decide) (by decide)
 have c16 : w14.cell? ⟨g, 32, none⟩ = some (.slice none 0 0) := HB14.out.nil 32 (by decide) (by decide)
 go_wp2_with fail
 refine (KAs.marked_book HB14.out.s HKs.out HYs.out).mono ?_
 rintro e w15 ⟨rfl, hb⟩
 have HB15 := Lib.hid (HB14.out.below hb)
 have HM15 : Hid (Mv S S w w15) := Mv.then_below' HM14.out hb
 clear c6 c7 c8 c9 c10 c11 c12 c13 c14 c15 c16
 clear hb HB14 HM14
 have c7 : w15.cell? ⟨g, 14, none⟩ = some (.slice none 0 0) := HB15.out.nil 14 (by decide) (by decide)
 have c8 : w15.cell? ⟨g, 16, none⟩ = some (.slice none 0 0) := HB15.out.nil 16 (by decide) (by decide)
 have c9 : w15.cell? ⟨g, 18, none⟩ = some (.slice none 0 0) := HB15.out.nil 18 (by decide) (by decide)
 have c10 : w15.cell? ⟨g, 20, none⟩ = some (.slice none 0 0) := HB15.out.nil 20 (by decide) (by decide)
 have c11 : w15.cell? ⟨g, 22, none⟩ = some (.slice none 0 0) := HB15.out.nil 22 (by decide) (by decide)
 have c12 : w15.cell? ⟨g, 24, none⟩ = some (.slice none 0 0) := HB15.out.nil 24 (by decide) (by decide)
 have c13 : w15.cell? ⟨g, 26, none⟩ = some (.slice none 0 0) := HB15.out.nil 26 (by decide) (by decide)
 have c14 : w15.cell? ⟨g, 28, none⟩ = some (.slice none 0 0) := HB15.out.nil 28 (by decide) (by decide)
 have c15 : w15.cell? ⟨g, 30, none⟩ = some (.slice none 0 0) := HB15.out.nil 30 (by decide) (by decide)
 have c16 : w15.cell? ⟨g, 32, none⟩ = some (.slice none 0 0) := HB15.out.nil 32 (by decide) (by decide)
 go_wp2_with fail
 refine (markedInsts_none w15).mono ?_
 rintro e w' ⟨rfl, rfl⟩
 go_wp2_with fail
 refine (markedInsts_none w15).mono ?_
 rintro e w' ⟨rfl, rfl⟩
 go_wp2_with fail
 refine (markedPairs_none w15).mono ?_
 rintro e w' ⟨rfl, rfl⟩
 go_wp2_with fail
 refine (markedPairs_none w15).mono ?_
 rintro e w' ⟨rfl, rfl⟩
 go_wp2_with fail
 refine (markedAllegs_none w15).mono ?_
 rintro e w' ⟨rfl, rfl⟩
 go_wp2_with fail
 refine (markedAllegs_none w15).mono ?_
 rintro e w' ⟨rfl, rfl⟩
 go_wp2_with fail
 refine (markedLinks_none w15).mono ?_
 rintro e w' ⟨rfl, rfl⟩
 go_wp2_with fail
 refine (markedLinks_none w15).mono ?_
 rintro e w' ⟨rfl, rfl⟩
 go_wp2_with fail
 refine (markedPledges_none w15).mono ?_
 rintro e w' ⟨rfl, rfl⟩
 go_wp2_with fail
 refine (markedPledges_none w15).mono ?_
 rintro e w' ⟨rfl, rfl⟩
 go_wp2_with fail
 refine (markedLoans_none w15).mono ?_
 rintro e w' ⟨rfl, rfl⟩
 go_wp2_with fail
 refine (markedLoans_none w15).mono ?_
 rintro e w' ⟨rfl, rfl⟩
 go_wp2_with fail
 refine (markedTakes_none w15).mono ?_
 rintro e w' ⟨rfl, rfl⟩
 go_wp2_with fail
 refine (markedTakes_none w15).mono ?_
 rintro e w' ⟨rfl, rfl⟩
 go_wp2_with fail
 refine (markedLegs_none w15).mono ?_
 rintro e w' ⟨rfl, rfl⟩
 go_wp2_with fail
 refine (markedLegs_none w15).mono ?_
 rintro e w' ⟨rfl, rfl⟩
 go_wp2_with fail
 refine (markedStocks_none w15).mono ?_
 rintro e w' ⟨rfl, rfl⟩
 go_wp2_with fail
 refine (markedStocks_none w15).mono ?_
 rintro e w' ⟨rfl, rfl⟩
 go_wp2_with fail
 refine (markedSteps_none w15).mono ?_
 rintro e w' ⟨rfl, rfl⟩
 go_wp2_with fail
 refine (markedSteps_none w15).mono ?_
 rintro e w' ⟨rfl, rfl⟩
 go_wp2
 go_ret
 exact ⟨rfl, HM15.out⟩
end Go.Proofs.YtnpkplegeddhcaaGreat
