/-
  WalMends: whatever bytes stand behind the last group, opened anew there are the groups, the file is mended, and goes on.
  Conditions: lists of lists of texts, texts.
-/
import Derived.Test.YtfmbadinfhpihaaGreatWalBroken
import Derived.Test.YtfmbadinfhpihaaGreatOpenTT
namespace Go.Proofs.YtfmbadinfhpihaaGreat
open Go.RowKit Go.Maps
set_option maxRecDepth 100000

/-- What holds of the groups that were committed so far. -/
structure GInv (G : List (List ByteArray)) (k : Nat) : Prop where
  fit : ∀ ss ∈ G, FitG ss
  size : (fileOf G).size ≤ k * 600
  few : G.length ≤ k
  len : G.flatten.length ≤ k * 20
theorem ginv_nil : GInv [] 0 := ⟨by simp, by decide, by decide, by decide⟩
theorem fit_short {few rm : Nat} {ss : List ByteArray} (h : shortB few rm ss = true) (hr : rm < 60000) (hf : few ≤ 1000) : FitG ss := ⟨by have := (short_total h).1; omega, short_long h hr⟩
/-- A row apart from a log and its disk stays where they turn. -/
theorem row_aside {c b : Nat} {T T' : List Nat} {w w' : World} {B : Nat} {v : Value} {n : Nat} {xs : List Value} (ho : w.ownsRow B 9 1 v n xs) (hm : Mv (c :: b :: T) (c :: b :: T') w w') (ha : ∀ q, v.ownBlock = some q → q ∉ c :: b :: T) :
    w'.ownsRow B 9 1 v n xs ∧ ∀ q, v.ownBlock = some q → q ∉ c :: b :: T' :=
  ⟨Wi.ownsRow_keep ho (fun q hq => hm.block q (ho.lt q hq).2 (ha q hq)), fun q hq e => (hm.link q e).elim (ha q hq) (fun h => by have := (ho.lt q hq).2; omega)⟩
/-- A log and its disk stay where a row apart from them grows. -/
theorem log_grown {g c b : Nat} {T : List Nat} {nm : ByteArray} {lg : Lg} {st : Dk} {w w' : World} {row : Option Nat} (hl : LogAt g c T nm lg w) (hd : DkAt c b st w) (hg : w.grownBy w' row) (ha : ∀ q, row = some q → q ∉ c :: b :: T) : LogAt g c T nm lg w' ∧ DkAt c b st w' :=
  ⟨hl.keep (fun q hq => hg.block q (hl.there q hq) (fun e => ha q e.symm (by simp [hq]))), hd.keep (hg.block c hd.lt (fun e => ha c e.symm (by simp))) (hg.block b hd.ltb (fun e => ha b e.symm (by simp)))⟩
theorem below_grown {w0 w w' : World} {row : Option Nat} (hB : Below w0.heap.size w0 w) (hg : w.grownBy w' row) (hr : ∀ q, row = some q → w0.heap.size ≤ q) : Below w0.heap.size w0 w' :=
  hB.trans ⟨hg.os, hg.tape, hg.output, hg.size, fun q hq => hg.block q (by have := hB.size; omega) (fun e => by have := hr q e.symm; omega)⟩
theorem total_empty : total [] = 0 := rfl
theorem low_ne {c b B q : Nat} {T : List Nat} (hc : B ≤ c) (hb : B ≤ b) (hT : ∀ k, k ∈ T → B ≤ k) (hq : q < B) : q ∉ c :: b :: T := by
  intro h
  simp only [List.mem_cons] at h
  rcases h with h | h | h
  · omega
  · omega
  · have := hT q h; omega
theorem strs_one (ss : List ByteArray) : ∀ u ∈ strs ss, u.oneCell' = true := by
  intro u hu
  obtain ⟨s, _, rfl⟩ := List.mem_map.1 hu
  rfl
set_option maxHeartbeats 8000000 in
theorem wmends_walk (l : List TL) (A0 : Option Addr) (c0 : Nat) (x : ByteArray) (s2 : List ByteArray) (A2 : Option Addr) (c2 : Nat) (w : World) (hr0 : TLsAt w w.heap.size A0 l) (hl0 : l.length ≤ 9223372036854775807) (hf0 : ∀ x ∈ l, x.Fits) (hx : x.size ≤ 9223372036854775807)
    (hr2 : Reads w w.heap.size 1 A2 s2.length (strs s2)) (hl2 : s2.length ≤ 9223372036854775807) (hs2 : ∀ s ∈ s2, s.size ≤ 9223372036854775807) :
    Calls Tryz.prog 4 #[.slice A0 l.length c0, .string x, .slice A2 s2.length c2] w fun e w' => e = .returned (.bool true) ∧ Below w.heap.size w w' := by
  obtain ⟨i0, hinf, hz0, hz1, hz2⟩ := info_parts info_string
  have qs2 := fun W (hb : Below w.heap.size w W) => short_any 10 400 (by decide) (by decide) s2 A2 c2 W ((hr2.below hb).more hb.size) hl2 hs2
  have qs0 := fun (y : TL) (hy : y ∈ l) W (hb : Below w.heap.size w W) (hr : Reads W w.heap.size 1 y.a y.ss.length (strs y.ss)) => short_any 20 400 (by decide) (by decide) y.ss y.a y.c W (hr.more hb.size) (hf0 y hy).lt (hf0 y hy).vt
  obtain ⟨n, hn⟩ : ∃ m, l.length = m := ⟨_, rfl⟩
  obtain ⟨m2, hm2⟩ : ∃ m, s2.length = m := ⟨_, rfl⟩
  obtain ⟨b2, hb2⟩ : ∃ b, shortB 10 400 s2 = b := ⟨_, rfl⟩
  rw [hn] at hl0 ⊢
  rw [hm2] at hr2 hl2 qs2 ⊢
  rw [hb2] at qs2
  have Q2 := Lib.hid qs2; have Q0 := Lib.hid qs0; have R0 := Lib.hid hr0; have R2 := Lib.hid hr2; have N0 := Lib.hid hn; have M2 := Lib.hid hm2; have B2 := Lib.hid hb2
  clear qs2 qs0 hr0 hr2 hn hm2 hb2 hs2 hf0
  by_cases g1 : 10 < n
  · go_enter Tryz.func4, Tryz.ntmps4
    go_wp2_with fail
    refine (alive6_any _).mono ?_
    rintro e w1 ⟨rfl, hb1⟩
    go_wp2
    go_ret
    exact ⟨rfl, hb1⟩
  by_cases g2 : 3000 < x.size
  · go_enter Tryz.func4, Tryz.ntmps4
    go_wp2_with fail
    refine (alive6_any _).mono ?_
    rintro e w1 ⟨rfl, hb1⟩
    go_wp2
    go_ret
    exact ⟨rfl, hb1⟩
  by_cases g3 : 10 < m2
  · go_enter Tryz.func4, Tryz.ntmps4
    go_wp2_with fail
    refine (alive6_any _).mono ?_
    rintro e w1 ⟨rfl, hb1⟩
    go_wp2
    go_ret
    exact ⟨rfl, hb1⟩
  by_cases g4 : 8 ≤ x.size
  · go_enter Tryz.func4, Tryz.ntmps4
    go_wp2_with fail
    refine (alive6_any _).mono ?_
    rintro e w1 ⟨rfl, hb1⟩
    go_wp2
    go_ret
    exact ⟨rfl, hb1⟩
  go_enter Tryz.func4, Tryz.ntmps4
  go_wp2_with fail
  refine (new_any _).mono ?_
  rintro e w3 ⟨c, b, rfl, h3, hc, hb, hbel3⟩
  have HB3 := Lib.hid hbel3
  have q := openA c b ⟨#[119]⟩ name_w newDk w3 h3 on1_new
  clear hbel3 h3
  go_wp2_with fail
  refine q.mono ?_
  rintro e w4 ⟨g, T4, s4, rfl, hl4, hd4, ho4, hT4, hm4⟩
  have HB4 := Lib.hid (open_here HB3.out hm4 hc hb)
  have HT4 : Hid (∀ k, k ∈ T4 → w.heap.size ≤ k) := fun k hk => Nat.le_trans HB3.out.size (hT4 k hk)
  have HL4 := Lib.hid hl4; have HD4 := Lib.hid hd4; have HO4 := Lib.hid ho4
  clear q hl4 hd4 ho4 hT4 hm4 HB3
  go_wp2
  go_loopw [10, 11] (fun al i wr => ∃ (k : Nat) (T : List Nat) (st : Dk) (G : List (List ByteArray)), k ≤ n ∧ i = .int .i64 k ∧ Hid (LogAt g c T ⟨#[119]⟩ (logOf G false) wr) ∧ Hid (DkAt c b st wr) ∧ Hid (On1 st (oneF ⟨#[119]⟩ (fileOf G) ((fileOf G).size : Nat))) ∧ Hid (∀ q, q ∈ T → w.heap.size ≤ q) ∧ Hid (Below w.heap.size w wr) ∧ Hid (GInv G k) ∧
      Hid (wr.ownsRow w.heap.size 9 1 al G.flatten.length (strs G.flatten)) ∧ Hid (∀ q, al.ownBlock = some q → q ∉ c :: b :: T)) (fun _ i _ => n - (intOf i).toNat)
  case atStart => exact ⟨0, T4, s4, [], Nat.zero_le _, rfl, HL4.out, HD4.out, HO4.out, HT4.out, HB4.out, ginv_nil, World.ownsRow_nil _ _ _ _, fun q hq => by simp [Value.ownBlock] at hq⟩
  case round =>
    obtain ⟨k, T, st, G, hk, rfl, HL, HD, HO, HT, HB, HG, HAL, HAP⟩ := hrel
    by_cases hlt : k < n
    · obtain ⟨ad, y, rfl, hab, hyk, hcell, hyr⟩ := (R0.out.below HB.out).at_ (show k < l.length by rw [N0.out]; exact hlt)
      have qsh := Q0.out y (List.mem_of_getElem? hyk) wr HB.out hyr
      obtain ⟨ss, ya, yc⟩ := y
      simp only at hcell hyr qsh
      obtain ⟨m, hm⟩ : ∃ m, ss.length = m := ⟨_, rfl⟩
      obtain ⟨bs, hbs⟩ : ∃ x, shortB 20 400 ss = x := ⟨_, rfl⟩
      rw [hm] at hcell hyr qsh
      rw [hbs] at qsh
      have HMM := Lib.hid hm; have HBS := Lib.hid hbs; have HYR := Lib.hid hyr
      clear hm hbs hyr hyk
      cases bs
      · go_wp2_with fail
        refine qsh.mono ?_
        rintro e w5 ⟨rfl, hb5⟩
        have HB5 := Lib.hid (HB.out.trans (hb5.mono HB.out.size))
        clear hb5 qsh
        go_wp2_with fail
        refine (alive6_any _).mono ?_
        rintro e w99 ⟨rfl, hb99⟩
        have HB99 := Lib.hid (HB5.out.trans (hb99.mono HB5.out.size))
        clear hb99
        go_wp2
        go_ret
        exact ⟨rfl, HB99.out⟩
      · obtain ⟨hs1, ht1⟩ := short_total HBS.out
        rw [HMM.out] at hs1
        have hfit := fit_short HBS.out (by decide) (by decide)
        obtain ⟨hgf, hgs, hgn, hgl⟩ := HG.out
        go_wp2_with fail
        refine qsh.mono ?_
        rintro e w5 ⟨rfl, hb5⟩
        have HB5 := Lib.hid (HB.out.trans (hb5.mono HB.out.size))
        have hl5 := HL.out.below hb5
        have hd5 : DkAt c b st w5 := HD.out.below hb5 HD.out.lt HD.out.ltb
        have hal5 := Wi.ownsRow_keep HAL.out (fun q hq => hb5.block q (HAL.out.lt q hq).2)
        have hcell5 := (hb5.cell (p := ad.add k) (by rw [block_of_add]; exact Nat.lt_of_lt_of_le hab HB.out.size)).trans hcell
        obtain ⟨G1, s6, e6, ho6, hfl6, hsz6, hln6, hG6⟩ := commit_one HO.out hfit.2 (by rw [HMM.out]; omega)
        rw [HMM.out] at hsz6 hG6
        have q6 := commit_at g c b T ⟨#[119]⟩ (logOf G false) st ss 0 _ _ e6 HO.out.ok m HMM.out ya yc w5 hl5 hd5 w.heap.size (HYR.out.below (show Below w.heap.size wr w5 from hb5.mono HB.out.size)) HB5.out.size (fun h0 ad e => by
    obtain ⟨ad', e', hlt, _⟩ := HYR.out.2 h0
    rw [e] at e'; injection e' with e'; subst e'
    exact ⟨fun hm => by have := HT.out _ hm; omega, by omega, by omega⟩) (by decide) (by omega) (by omega) (by show G.flatten.length ≤ _; omega) (by show G.length ≤ _; omega) (by show (fileOf G).size ≤ _; omega)
        have HO6 := Lib.hid ho6; have HFL := Lib.hid hfl6
        have HG6 : Hid (GInv G1 (k + 1)) := by
          refine ⟨fun s hs => ?_, by omega, by omega, by rw [hfl6, List.length_append, HMM.out]; omega⟩
          rw [hG6] at hs
          split at hs
          · exact hgf s hs
          · rcases List.mem_append.1 hs with h | h
            · exact hgf s h
            · obtain rfl : s = ss := by simpa using h
              exact hfit
        have HAL5 := Lib.hid hal5
        clear hfit hgf hgs hgn e6 ho6 hfl6 hsz6 hln6 hG6 hl5 hd5 hal5 qsh hcell
        go_wp2_with fail
        refine q6.mono ?_
        rintro e w6 ⟨T6, rfl, hl6, hd6, hm6⟩
        obtain ⟨hB6, hT6⟩ := Mv.here HB5.out hm6 hc hb HT.out
        obtain ⟨hal6, hap6⟩ := row_aside HAL5.out hm6 HAP.out
        have hcell6 : w6.cell? (ad.add k) = some (.slice ya m yc) := (World.cell?_of_block (hm6.block (ad.add k).block (by rw [block_of_add]; have := HB5.out.size; omega) (by rw [block_of_add]; exact low_ne hc hb HT.out hab))).trans hcell5
        have hrd6 := HYR.out.mv (show Mv (c :: b :: T) (c :: b :: T6) wr w6 from ((Mv.refl _ wr).then_below hb5).trans hm6) HB.out.size (fun h0 ad' e => by
          obtain ⟨ad'', e', hlt', _⟩ := HYR.out.2 h0
          rw [e] at e'; injection e' with e'; subst e'
          exact low_ne hc hb HT.out hlt')
        obtain ⟨A8, c8, rfl, hc8⟩ := own_form hal6
        obtain ⟨gl, hgl8⟩ : ∃ gl, G.flatten.length = gl := ⟨_, rfl⟩
        rw [hgl8] at hal6 hap6 hgl ⊢
        have HGL := Lib.hid hgl8; have HL6 := Lib.hid hl6; have HD6 := Lib.hid hd6; have HT6 := Lib.hid hT6; have HB6 := Lib.hid hB6; have HAP6 := Lib.hid hap6
        clear q6 hl6 hd6 hm6 hB6 hT6 hgl8 hap6 hb5 HB5 HAL5 HL HD HAL hcell5
        go_wp2_with (at_builtin; refine wpList_append_any _ rfl _ _ 22 rfl w.heap.size 9 i0 (.string ⟨#[]⟩) 1 16 Tryz.underlying22 hinf hz0 hz1 hz2 rfl (by decide) _ _ _ rfl hal6 w.heap.size ya m yc (strs ss) rfl hrd6 (by simp [strs, Value.oneCell']) (by unfold maxLen; omega) (by omega) HB6.out.size ?_)
        intro v9 w9 hown9 hgrow9 hlink9
        obtain ⟨hl9, hd9⟩ := log_grown HL6.out HD6.out hgrow9 (fun q hq => HAP6.out q hq)
        have HB9 := Lib.hid (below_grown HB6.out hgrow9 (fun q hq => (hal6.lt q hq).1))
        have HL9 := Lib.hid hl9; have HD9 := Lib.hid hd9
        have HAP9 : Hid (∀ q, v9.ownBlock = some q → q ∉ c :: b :: T6) := by
          intro q hq hmem
          rcases hlink9 with e | e
          · exact HAP6.out q (by rw [← e]; exact hq) hmem
          · rw [e] at hq; injection hq with hq
            simp only [List.mem_cons] at hmem
            rcases hmem with h | h | h
            · have := HD6.out.lt; omega
            · have := HD6.out.ltb; omega
            · have := HL6.out.there _ h; omega
        have HAL9 : Hid (w9.ownsRow w.heap.size 9 1 v9 G1.flatten.length (strs G1.flatten)) := by
          show World.ownsRow _ _ _ _ _ _ _
          rw [HFL.out, strs_append, List.length_append, HMM.out, HGL.out]
          exact hown9
        clear hown9 hgrow9 hlink9 hl9 hd9 hal6 hrd6 HL6 HD6 HB6
        go_wp2
        go_roundw
        case rel => exact ⟨k + 1, T6, s6, G1, hlt, by go_num, HL9.out, HD9.out, HO6.out, HT6.out, HB9.out, HG6.out, HAL9.out, HAP9.out⟩
        case measure => simp [intOf]; omega
    · obtain rfl : k = n := by omega
      obtain ⟨hgf, hgs, hgn, hgl⟩ := HG.out
      obtain ⟨A8, c8, rfl, hc8⟩ := own_form HAL.out
      obtain ⟨gl, hgl8⟩ : ∃ gl, G.flatten.length = gl := ⟨_, rfl⟩
      obtain ⟨sz, hsz8⟩ : ∃ sz, (fileOf G).size = sz := ⟨_, rfl⟩
      have hal := HAL.out
      have hap := HAP.out
      rw [hgl8] at hgl hal hap ⊢
      have qz := size_any' g c T _ _ wr HL.out
      change Calls _ _ _ _ fun e w' => e = .returned (.int .i64 (((fileOf G).size : Nat) : Int)) ∧ wr = w' at qz
      obtain ⟨st1, e1, ho1⟩ := append_one HO.out x (by omega)
      have qa := append_any c b st HO.out.ok ⟨#[119]⟩ x (by decide) hx wr HD.out
      rw [e1] at qa
      have HSZ := Lib.hid hsz8; have HGL := Lib.hid hgl8; have HO1 := Lib.hid ho1; have HAL0 := Lib.hid hal; have HAP0 := Lib.hid hap; have HGF := Lib.hid hgf
      rw [hsz8] at qz hgs
      clear hgl8 hsz8 ho1 e1 hal hap HAL HAP HG HL hgf
      go_wp2_with fail
      refine qz.mono ?_
      rintro e w5 ⟨rfl, rfl⟩
      go_wp2_with fail
      refine qa.mono ?_
      rintro e w6 ⟨rfl, hd6, hm6⟩
      have HB6 := Lib.hid (open_here HB.out hm6 hc hb)
      obtain ⟨hal6, _⟩ := row_aside HAL0.out (T := []) (T' := []) hm6 (fun q hq e => HAP0.out q hq (by simp at e ⊢; omega))
      have HAL6 := Lib.hid hal6
      have q7 := openB c b ⟨#[119]⟩ name_w G x _ st1 w6 hd6 HO1.out (by omega) (by rw [size_app']; omega) (goodOf_tailB HGF.out (by omega)) (fun _ => rfl) (by rw [HSZ.out]; omega)
      clear qz qa hd6 hm6 hal6 HO1 HAL0 HD HO
      go_wp2_with fail
      refine q7.mono ?_
      rintro e w7 ⟨g7, T7, st7, rfl, hl7, hd7, ho7, hT7, hm7⟩
      have HB7 := Lib.hid (open_here HB6.out hm7 hc hb)
      obtain ⟨hal7, _⟩ := row_aside HAL6.out (T := []) (T' := []) hm7 (fun q hq e => HAP0.out q hq (by simp at e ⊢; omega))
      have HT7 : Hid (∀ k, k ∈ T7 → w.heap.size ≤ k) := fun k hk => Nat.le_trans HB6.out.size (hT7 k hk)
      have HAP7 : Hid (∀ q, (Value.slice A8 gl c8).ownBlock = some q → q ∉ c :: b :: T7) := fun q hq hmem => by
        have h1 := HAP0.out q hq
        have h2 := (HAL6.out.lt q hq).2
        simp only [List.mem_cons] at hmem h1
        rcases hmem with h | h | h
        · exact h1 (.inl h)
        · exact h1 (.inr (.inl h))
        · have := hT7 q h; omega
      have q8 := records_any g7 c T7 _ _ w7 hl7 (by show G.flatten.length ≤ _; rw [HGL.out]; omega)
      change Calls _ _ _ _ fun e w' => ∃ v, e = .returned v ∧ w'.ownsRow w7.heap.size 9 1 v G.flatten.length (strs G.flatten) ∧ Below w7.heap.size w7 w' at q8
      rw [HGL.out] at q8
      have HL7 := Lib.hid hl7; have HD7 := Lib.hid hd7; have HO7 := Lib.hid ho7; have HAL7 := Lib.hid hal7
      clear q7 hl7 hd7 ho7 hT7 hm7 hal7 HB6 HAL6 HAP0 HB HT
      go_wp2_with fail
      refine q8.mono ?_
      rintro e w8 ⟨v, rfl, hown8, hb8⟩
      obtain ⟨A9, c9, rfl, _⟩ := own_form hown8
      have hal8 := Wi.ownsRow_keep HAL7.out (fun q hq => hb8.block q (HAL7.out.lt q hq).2)
      have q9 := same_any G.flatten G.flatten A9 A8 c9 c8 w8.heap.size w8 (by rw [HGL.out]; exact Reads.of_own hown8) (by rw [HGL.out]; exact Reads.of_own hal8) (by rw [HGL.out]; omega) (by rw [HGL.out]; omega)
      rw [HGL.out, sameB_self] at q9
      have HB8 := Lib.hid (HB7.out.trans (hb8.mono HB7.out.size))
      have HL8 := Lib.hid (HL7.out.below hb8)
      have HD8 := Lib.hid (HD7.out.below hb8 HD7.out.lt HD7.out.ltb)
      have HAL8 := Lib.hid hal8
      clear q8 hown8 hb8 hal8 HB7 HL7 HD7 HAL7
      go_wp2_with fail
      refine q9.mono ?_
      rintro e w9 ⟨rfl, q, rfl⟩
      obtain ⟨W, hW⟩ : ∃ W, w8.drewN q = W := ⟨_, rfl⟩
      have HB9 : Hid (Below w.heap.size w W) := by show Below _ _ _; rw [← hW]; exact drewN_below HB8.out q
      have HL9 : Hid (LogAt g7 c T7 ⟨#[119]⟩ (logOf G false) W) := by show LogAt _ _ _ _ _ _; rw [← hW]; exact HL8.out.drewN q
      have HD9 : Hid (DkAt c b st7 W) := by show DkAt _ _ _ _; rw [← hW]; exact HD8.out
      have HAL9 : Hid (W.ownsRow w.heap.size 9 1 (.slice A8 gl c8) gl (strs G.flatten)) := by show World.ownsRow _ _ _ _ _ _ _; rw [← hW]; exact HAL8.out
      rw [hW]
      have qz9 := size_any' g7 c T7 _ _ W HL9.out
      change Calls _ _ _ _ fun e w' => e = .returned (.int .i64 (((fileOf G).size : Nat) : Int)) ∧ W = w' at qz9
      rw [HSZ.out] at qz9
      have qr9 := read_any c b st7 HO7.out.ok.good ⟨#[119]⟩ (by decide) W HD9.out
      rw [read_one HO7.out] at qr9
      obtain ⟨fb, hfb⟩ : ∃ fb, fileOf G = fb := ⟨_, rfl⟩
      have hfz : fb.size = sz := by rw [← hfb]; exact HSZ.out
      rw [hfb] at qr9
      clear q9 hW HB8 HL8 HD8 HAL8
      go_wp2_with fail
      refine qz9.mono ?_
      rintro e w9 ⟨rfl, rfl⟩
      go_wp2_with fail
      refine qr9.mono ?_
      rintro e w10 ⟨rfl, hb10⟩
      have HB10 := Lib.hid (HB9.out.trans (hb10.mono HB9.out.size))
      have HL10 := Lib.hid (HL9.out.below hb10)
      have HD10 := Lib.hid (HD9.out.below hb10 HD9.out.lt HD9.out.ltb)
      have HAL10 := Lib.hid (Wi.ownsRow_keep HAL9.out (fun q hq => hb10.block q (HAL9.out.lt q hq).2))
      have q11 := files_own c b st7 HO7.out.ok w10 HD10.out
      rw [HO7.out.fs_, lst_one] at q11
      simp only [List.length_cons, List.length_nil] at q11
      have HFB := Lib.hid hfb
      clear qz9 qr9 hb10 HB9 HL9 HD9 HAL9 hfb
      go_wp2_with fail
      refine q11.mono ?_
      rintro e w11 ⟨v, rfl, hown11, hb11⟩
      obtain ⟨A11, c11, rfl, _⟩ := own_form hown11
      have HB11 := Lib.hid (HB10.out.trans (hb11.mono HB10.out.size))
      have HL11 := Lib.hid (HL10.out.below hb11)
      have HD11 := Lib.hid (HD10.out.below hb11 HD10.out.lt HD10.out.ltb)
      have HAL11 := Lib.hid (Wi.ownsRow_keep HAL10.out (fun q hq => hb11.block q (HAL10.out.lt q hq).2))
      have q12 := Q2.out w11 HB11.out
      clear q11 hown11 hb11 HB10 HL10 HD10 HAL10
      cases b2
      · go_wp2_with fail
        refine q12.mono ?_
        rintro e w12 ⟨rfl, hb12⟩
        have HB12 := Lib.hid (HB11.out.trans (hb12.mono HB11.out.size))
        clear hb12
        go_wp2_with fail
        refine (alive6_any _).mono ?_
        rintro e w99 ⟨rfl, hb99⟩
        have HB99 := Lib.hid (HB12.out.trans (hb99.mono HB12.out.size))
        clear hb99
        go_wp2
        go_ret
        exact ⟨rfl, HB99.out⟩
      · obtain ⟨hs2, ht2⟩ := short_total B2.out
        rw [M2.out] at hs2
        have hfit2 := fit_short B2.out (by decide) (by decide)
        go_wp2_with fail
        refine q12.mono ?_
        rintro e w12 ⟨rfl, hb12⟩
        have HB12 := Lib.hid (HB11.out.trans (hb12.mono HB11.out.size))
        have hl12 := HL11.out.below hb12
        have hd12 : DkAt c b st7 w12 := HD11.out.below hb12 HD11.out.lt HD11.out.ltb
        have HAL12 := Lib.hid (Wi.ownsRow_keep HAL11.out (fun q hq => hb12.block q (HAL11.out.lt q hq).2))
        obtain ⟨G2, st13, e13, ho13, hfl13, hsz13, hln13, hG13⟩ := commit_one HO7.out hfit2.2 (by rw [M2.out, HSZ.out]; omega)
        rw [M2.out, HSZ.out] at hsz13
        rw [M2.out] at hG13
        have q13 := commit_at g7 c b T7 ⟨#[119]⟩ (logOf G false) st7 s2 0 _ _ e13 HO7.out.ok m2 M2.out A2 c2 w12 hl12 hd12 w.heap.size (R2.out.below HB12.out) HB12.out.size (fun h0 ad e => by
          obtain ⟨ad', e', hlt', _⟩ := R2.out.2 h0
          rw [e] at e'; injection e' with e'; subst e'
          exact ⟨fun hm => by have := HT7.out _ hm; omega, by omega, by omega⟩) (by decide) (by omega) (by omega) (by show G.flatten.length ≤ _; rw [HGL.out]; omega) (by show G.length ≤ _; omega) (by show (fileOf G).size ≤ _; rw [HSZ.out]; omega)
        have HGF2 : Hid (∀ ss ∈ G2, FitG ss) := by
          intro s hs
          rw [hG13] at hs
          split at hs
          · exact HGF.out s hs
          · rcases List.mem_append.1 hs with h | h
            · exact HGF.out s h
            · obtain rfl : s = s2 := by simpa using h
              exact hfit2
        have HO13 := Lib.hid ho13; have HFL := Lib.hid hfl13
        clear hfit2 e13 ho13 hfl13 hln13 hG13 hl12 hd12 hb12 q12 HB11 HL11 HD11 HAL11 HO7
        go_wp2_with fail
        refine q13.mono ?_
        rintro e w13 ⟨T13, rfl, hl13, hd13, hm13⟩
        obtain ⟨hB13, hT13⟩ := Mv.here HB12.out hm13 hc hb HT7.out
        obtain ⟨hal13, hap13⟩ := row_aside HAL12.out hm13 HAP7.out
        have HB13 := Lib.hid hB13; have HAL13 := Lib.hid hal13; have HAP13 := Lib.hid hap13
        have q14 := openB c b ⟨#[119]⟩ name_w G2 ⟨#[]⟩ _ st13 w13 hd13 (by have h := HO13.out; have e : fileOf G2 ++ ⟨#[]⟩ = fileOf G2 := of_data (by rw [Sm.data_append]; simp); rw [e]; exact h) (by omega) (by rw [size_app']; have : (⟨#[]⟩ : ByteArray).size = 0 := rfl; omega)
          (goodOf_tailB HGF2.out (by decide)) (fun _ => rfl) (by have : (⟨#[]⟩ : ByteArray).size = 0 := rfl; omega)
        clear q13 hl13 hd13 hm13 hB13 hT13 hal13 hap13 HB12 HAL12 HAP7 HT7 HO13
        go_wp2_with fail
        refine q14.mono ?_
        rintro e w14 ⟨g14, T14, st14, rfl, hl14, hd14, ho14, hT14, hm14⟩
        have HB14 := Lib.hid (open_here HB13.out hm14 hc hb)
        obtain ⟨hal14, _⟩ := row_aside HAL13.out (T := []) (T' := []) hm14 (fun q hq e => HAP13.out q hq (by simp at e ⊢; omega))
        have HL14 := Lib.hid hl14; have HAL14 := Lib.hid hal14
        clear q14 hl14 hd14 ho14 hT14 hm14 hal14 HB13 HAL13 HAP13
        go_wp2_with fail
        refine (alive6_any _).mono ?_
        rintro e w15 ⟨rfl, hb15⟩
        have HB15 := Lib.hid (HB14.out.trans (hb15.mono HB14.out.size))
        have hl15 := HL14.out.below hb15
        have HAL15 := Lib.hid (Wi.ownsRow_keep HAL14.out (fun q hq => hb15.block q (HAL14.out.lt q hq).2))
        have hfll : G2.flatten.length = gl + m2 := by rw [HFL.out, List.length_append, HGL.out, M2.out]
        have q16 := records_any g14 c T14 _ _ w15 hl15 (by show G2.flatten.length ≤ _; omega)
        change Calls _ _ _ _ fun e w' => ∃ v, e = .returned v ∧ w'.ownsRow w15.heap.size 9 1 v G2.flatten.length (strs G2.flatten) ∧ Below w15.heap.size w15 w' at q16
        rw [hfll] at q16
        have HFLL := Lib.hid hfll
        clear hb15 hl15 HB14 HL14 HAL14 hfll
        go_wp2_with fail
        refine q16.mono ?_
        rintro e w16 ⟨v, rfl, hown16, hb16⟩
        obtain ⟨A16, c16, rfl, _⟩ := own_form hown16
        have HB16 := Lib.hid (HB15.out.trans (hb16.mono HB15.out.size))
        have hal16 := Wi.ownsRow_keep HAL15.out (fun q hq => hb16.block q (HAL15.out.lt q hq).2)
        have HO16 := Lib.hid hown16
        have HW16 := Lib.hid HB16.out.size
        clear q16 hb16 hown16 HB15 HAL15
        go_wp2_with (at_builtin; refine wpList_append_guard _ (by rfl) (.const (.slice none 0 0)) (.tmp 153) 22 rfl w16.heap.size 9 i0 (.string ⟨#[]⟩) 1 16 Tryz.underlying22 hinf hz0 hz1 hz2 rfl (by decide) (.slice none 0 0) 0 [] rfl (World.ownsRow_nil w16 w16.heap.size 9 1) w16.heap.size A8 gl c8 (strs G.flatten) rfl (Reads.of_own hal16) (strs_one _) (by unfold maxLen; omega) (by omega) (Nat.le_refl _) ?_)
        intro v17 w17 hown17 hgrow17 hlink17
        have hown17' : w17.ownsRow w16.heap.size 9 1 v17 gl (strs G.flatten) := by simpa using hown17
        clear hown17
        have hown17 := hown17'
        clear hown17'
        have HB17 := Lib.hid (below_grown HB16.out hgrow17 (fun q hq => by simp [Value.ownBlock] at hq))
        have HO17 := Lib.hid (Wi.ownsRow_keep HO16.out (fun q hq => hgrow17.block q (HO16.out.lt q hq).2 (by simp [Value.ownBlock])))
        obtain ⟨A17, c17, rfl, _⟩ := own_form hown17
        have hlow17 : ∀ q, (Value.slice A17 gl c17).ownBlock = some q → w16.heap.size ≤ q := fun q hq => (hown17.lt q hq).1
        have HRM := Lib.hid (R2.out.below HB17.out)
        have h1617 := hgrow17.size
        clear hgrow17 hlink17 hal16 HB16
        go_wp2_with (at_builtin; refine wpList_append_guard _ (by rfl) (.tmp 154) (.tmp 155) 22 rfl w16.heap.size 9 i0 (.string ⟨#[]⟩) 1 16 Tryz.underlying22 hinf hz0 hz1 hz2 rfl (by decide) (.slice A17 gl c17) gl (strs G.flatten) rfl hown17 w.heap.size A2 m2 c2 (strs s2) rfl HRM.out (strs_one _) (by unfold maxLen; omega) (by omega) h1617 ?_)
        intro v18 w18 hown18 hgrow18 hlink18
        have HB18 := Lib.hid (below_grown HB17.out hgrow18 (fun q hq => by have := hlow17 q hq; have := HB17.out.size; have := HO16.out; exact Nat.le_trans (show w.heap.size ≤ w16.heap.size from HW16.out) (hlow17 q hq)))
        have ho18 := Wi.ownsRow_keep HO17.out (fun q hq => hgrow18.block q (HO17.out.lt q hq).2 (fun e => by have h1 := hlow17 q e.symm; have h2 := (HO16.out.lt q hq).2; omega))
        obtain ⟨A18, c18, rfl, _⟩ := own_form hown18
        rw [← strs_append, ← HFL.out] at hown18
        have q19 := same_any G2.flatten G2.flatten A16 A18 c16 c18 w18.heap.size w18 (by rw [HFLL.out]; exact Reads.of_own ho18) (by rw [HFLL.out]; exact Reads.of_own hown18) (by rw [HFLL.out]; omega) (by rw [HFLL.out]; omega)
        rw [sameB_self, HFLL.out] at q19
        clear hgrow18 hlink18 hown17 hown18 ho18 HRM HO17 HB17 HO16
        go_wp2_with fail
        refine q19.mono ?_
        rintro e w19 ⟨rfl, q, rfl⟩
        go_wp2
        go_ret
        exact ⟨rfl, drewN_below HB18.out q⟩
end Go.Proofs.YtfmbadinfhpihaaGreat
