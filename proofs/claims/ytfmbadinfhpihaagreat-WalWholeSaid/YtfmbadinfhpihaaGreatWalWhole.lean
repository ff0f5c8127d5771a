/-
  WalWhole: wherever the power fails, opened anew there are all groups that were OK, and of the one under way all or none.
  Conditions: lists of lists of texts, numbers.
-/
import Derived.Test.YtfmbadinfhpihaaGreatWalWholeD
namespace Go.Proofs.YtfmbadinfhpihaaGreat
open Go.RowKit Go.Maps
set_option maxRecDepth 100000
attribute [local go_sem ↓] Go.wp_at_zero Go.wp_at_succ

theorem own_weaken {w : World} {B B' : Nat} {v : Value} {n : Nat} {xs : List Value} (h : w.ownsRow B 9 1 v n xs) (hB : B' ≤ B) : w.ownsRow B' 9 1 v n xs := by
  refine ⟨h.1, ?_⟩
  rcases h.2 with h | ⟨g, cap, cur, h1, h2, h3⟩
  · exact .inl h
  · exact .inr ⟨g, cap, cur, h1, Nat.le_trans hB h2, h3⟩
set_option maxHeartbeats 40000000 in
theorem wwhole_walk (l : List TL) (A0 : Option Addr) (c0 : Nat) (fz : Int) (keep : List Int) (A2 : Option Addr) (c2 : Nat) (w : World) (hr0 : TLsAt w w.heap.size A0 l) (hl0 : l.length ≤ 9223372036854775807) (hf0 : ∀ x ∈ l, x.Fits) (hz1' : fz ≤ 9223372036854775807)
    (hr2 : Reads w w.heap.size 1 A2 keep.length (ints keep)) (hl2 : keep.length ≤ 9223372036854775807) (hs2 : ∀ v ∈ keep, -9223372036854775808 ≤ v ∧ v ≤ 9223372036854775807) :
    Calls Tryz.prog 6 #[.slice A0 l.length c0, .int .i64 fz, .slice A2 keep.length c2] w fun e w' => e = .returned (.bool true) ∧ Below w.heap.size w w' := by
  obtain ⟨i0, hinf, hz0, hz1, hz2⟩ := info_parts info_string
  have qs0 := fun (y : TL) (hy : y ∈ l) W (hb : Below w.heap.size w W) (hr : Reads W w.heap.size 1 y.a y.ss.length (strs y.ss)) => short_any 20 400 (by decide) (by decide) y.ss y.a y.c W (hr.more hb.size) (hf0 y hy).lt (hf0 y hy).vt
  obtain ⟨n, hn⟩ : ∃ m, l.length = m := ⟨_, rfl⟩
  rw [hn] at hl0 ⊢
  have Q0 := Lib.hid qs0; have R0 := Lib.hid hr0; have R2 := Lib.hid hr2; have N0 := Lib.hid hn; have S2 := Lib.hid hs2
  clear qs0 hr0 hr2 hn hs2 hf0
  by_cases g1 : 20 < n
  · go_enter Tryz.func6, Tryz.ntmps6
    go_wp2_with fail
    refine (alive6_any _).mono ?_
    rintro e w1 ⟨rfl, hb1⟩
    go_wp2
    go_ret
    exact ⟨rfl, hb1⟩
  by_cases g2 : fz < 0
  · go_enter Tryz.func6, Tryz.ntmps6
    go_wp2_with fail
    refine (alive6_any _).mono ?_
    rintro e w1 ⟨rfl, hb1⟩
    go_wp2
    go_ret
    exact ⟨rfl, hb1⟩
  go_enter Tryz.func6, Tryz.ntmps6
  go_wp2_with fail
  refine (new_any _).mono ?_
  rintro e w3 ⟨c, b, rfl, h3, hc, hb0, hbel3⟩
  have HB3 := Lib.hid hbel3
  have q := openA c b ⟨#[119]⟩ name_w newDk w3 h3 on1_new
  clear hbel3 h3
  go_wp2_with fail
  refine q.mono ?_
  rintro e w4 ⟨g, T4, s4, rfl, hl4, hd4, ho4, hT4, hm4⟩
  have HB4 := Lib.hid (open_here HB3.out hm4 hc hb0)
  have HT4 : Hid (∀ k, k ∈ T4 → w.heap.size ≤ k) := fun k hk => Nat.le_trans HB3.out.size (hT4 k hk)
  have hap4 := hl4.apart hd4
  have HL4 := Lib.hid hl4
  have qf := fuse_any c b s4 fz w4 hd4
  have hfz5 : Fz (fuseD s4 fz) (oneF ⟨#[119]⟩ (fileOf []) ((fileOf []).size : Nat)) := ⟨fuse_ok ho4.ok (by omega) (by omega), ho4.on, by show decide (0 ≤ fz) = true; rw [decide_eq_true]; omega, by show 0 ≤ fz; omega, ho4.fs_⟩
  obtain ⟨s5, hs5⟩ : ∃ s, fuseD s4 fz = s := ⟨_, rfl⟩
  rw [hs5] at qf hfz5
  have HF5 := Lib.hid hfz5
  clear q hl4 hd4 ho4 hT4 hm4 HB3 hs5 hfz5
  go_wp2_with fail
  refine qf.mono ?_
  rintro e w5 ⟨rfl, hd5, hm5⟩
  have HB5 := Lib.hid (Dk.there1 hc HB4.out hm5)
  have HL5 := Lib.hid (HL4.out.aside hm5 (fun k hk => by have := hap4 k hk; simp; omega))
  have HD5 := Lib.hid hd5
  clear qf hd5 hm5 HB4 HL4 hap4
  go_wp2
  go_loopw [10, 11, 12] (fun su sp i wr => ∃ (k : Nat) (T : List Nat) (st : Dk) (G : List (List ByteArray)) (P : List ByteArray), k ≤ n ∧ i = .int .i64 k ∧ Hid (LogAt g c T ⟨#[119]⟩ (logOf G false) wr) ∧ Hid (DkAt c b st wr) ∧ Hid (Fz st (oneF ⟨#[119]⟩ (fileOf G) ((fileOf G).size : Nat))) ∧ Hid (∀ q, q ∈ T → w.heap.size ≤ q) ∧ Hid (Below w.heap.size w wr) ∧ Hid (GInv G k) ∧
      Hid (wr.ownsRow w.heap.size 9 1 su G.flatten.length (strs G.flatten)) ∧ Hid (∀ q, su.ownBlock = some q → q ∉ c :: b :: T) ∧ Hid (wr.ownsRow w.heap.size 9 1 sp P.length (strs P)) ∧ Hid (∀ q, sp.ownBlock = some q → q ∉ c :: b :: T) ∧ Hid (P.length ≤ k * 20)) (fun _ _ i _ => n - (intOf i).toNat)
  case atStart => exact ⟨0, T4, s5, [], [], Nat.zero_le _, rfl, HL5.out, HD5.out, HF5.out, HT4.out, HB5.out, ginv_nil, World.ownsRow_nil _ _ _ _, fun q hq => by simp [Value.ownBlock] at hq, World.ownsRow_nil _ _ _ _, fun q hq => by simp [Value.ownBlock] at hq, by show (0 : Nat) ≤ _; omega⟩
  case round =>
    obtain ⟨k, T, st, G, P, hk, rfl, HL, HD, HO, HT, HB, HG, HSU, HAS, HSP, HAP2, HPN⟩ := hrel
    by_cases hlt : k < n
    · obtain ⟨ad, y, rfl, hab, hyk, hcell, hyr⟩ := (R0.out.below HB.out).at_ (show k < l.length by rw [N0.out]; exact hlt)
      have qsh := Q0.out y (List.mem_of_getElem? hyk) wr HB.out hyr
      obtain ⟨ss, ya, yc⟩ := y
      simp only at hcell hyr qsh
      obtain ⟨m, hm⟩ : ∃ m, ss.length = m := ⟨_, rfl⟩
      obtain ⟨bs, hbs⟩ : ∃ x, shortB 20 400 ss = x := ⟨_, rfl⟩
      rw [hm] at hcell hyr qsh
      rw [hbs] at qsh
      have HMM := Lib.hid hm; have HBS := Lib.hid hbs; have HYR := Lib.hid hyr
      clear hm hbs hyr hyk
      cases bs
      · go_wp2_with fail
        refine qsh.mono ?_
        rintro e w5 ⟨rfl, hb5⟩
        have HB5 := Lib.hid (HB.out.trans (hb5.mono HB.out.size))
        clear hb5 qsh
        go_wp2_with fail
        refine (alive6_any _).mono ?_
        rintro e w99 ⟨rfl, hb99⟩
        have HB99 := Lib.hid (HB5.out.trans (hb99.mono HB5.out.size))
        clear hb99
        go_wp2
        go_ret
        exact ⟨rfl, HB99.out⟩
      · obtain ⟨hs1, ht1⟩ := short_total HBS.out
        rw [HMM.out] at hs1
        have hfit := fit_short HBS.out (by decide) (by decide)
        obtain ⟨hgf, hgs, hgn, hgl⟩ := HG.out
        have hgs9 := group_len ss
        rw [HMM.out] at hgs9
        obtain ⟨A8, c8, rfl, _⟩ := own_form HSU.out
        obtain ⟨gl, hgl8⟩ : ∃ gl, G.flatten.length = gl := ⟨_, rfl⟩
        have hsu := HSU.out; have has := HAS.out
        rw [hgl8] at hgl hsu has ⊢
        have HGL := Lib.hid hgl8
        have HGF := Lib.hid hgf; have HFIT := Lib.hid hfit
        clear hgl8 HSU HAS HSP HAP2 HPN HG hgf hfit
        have HAS := Lib.hid has
        clear has
        go_wp2_with fail
        refine qsh.mono ?_
        rintro e w5 ⟨rfl, hb5⟩
        have HB5 := Lib.hid (HB.out.trans (hb5.mono HB.out.size))
        have HL5 := Lib.hid (HL.out.below hb5)
        have HD5 := Lib.hid (show DkAt c b st w5 from HD.out.below hb5 HD.out.lt HD.out.ltb)
        have hsu5 := Wi.ownsRow_keep hsu (fun q hq => hb5.block q (hsu.lt q hq).2)
        have hcell5 := (hb5.cell (p := ad.add k) (by rw [block_of_add]; exact Nat.lt_of_lt_of_le hab HB.out.size)).trans hcell
        have HYR5 := Lib.hid (HYR.out.below (show Below w.heap.size wr w5 from hb5.mono HB.out.size))
        have hz5 := HB5.out.size
        have HSU5 := Lib.hid hsu5
        have hrsu := Reads.of_own hsu5
        clear hb5 hsu hsu5 HB HL HD HYR hcell qsh
        go_wp2
        go_region_law ((first
          | (refine step_append_any _ rfl (.tmp 57) (.tmp 61) 22 rfl w5.heap.size 9 i0 (.string ⟨#[]⟩) 1 16 Tryz.underlying22 hinf hz0 hz1 hz2 rfl (by decide) (.slice A6 gl c6) gl (strs G.flatten) (by rfl) hown6 w.heap.size ya m yc (strs ss) (by rfl) hrd6 (strs_one _) (by unfold maxLen; omega) (by omega) hz6 ?_; intro v7 w7 hown7 hgrow7 hlink7; obtain ⟨A7, c7, rfl, _⟩ := own_form hown7)
          | (refine step_append_any _ rfl (.const (.slice none 0 0)) (.tmp 56) 22 rfl w5.heap.size 9 i0 (.string ⟨#[]⟩) 1 16 Tryz.underlying22 hinf hz0 hz1 hz2 rfl (by decide) (.slice none 0 0) 0 [] (by rfl) (World.ownsRow_nil _ _ _ _) w5.heap.size A8 gl c8 (strs G.flatten) (by rfl) hrsu (strs_one _) (by unfold maxLen; omega) (by omega) (Nat.le_refl _) ?_; intro v6 w6 hown6' hgrow6 hlink6; have hown6 : w6.ownsRow w5.heap.size 9 1 v6 gl (strs G.flatten) := (by simpa using hown6'); obtain ⟨A6, c6, rfl, _⟩ := own_form hown6; have hb56 : Below w5.heap.size w5 w6 := ⟨hgrow6.os, hgrow6.tape, hgrow6.output, hgrow6.size, fun q hq => hgrow6.block q hq (by simp [Value.ownBlock])⟩; have hcell6 : w6.cell? (ad.add k) = some (.slice ya m yc) := (hb56.cell (p := ad.add k) (by rw [block_of_add]; omega)).trans hcell5; have hrd6 : Reads w6 w.heap.size 1 ya m (strs ss) := HYR5.out.below (hb56.mono hz5); have hz6 : w5.heap.size ≤ w6.heap.size := hb56.size; clear hown6' hgrow6 hlink6)))
        all_goals
          have hb57 : Below w5.heap.size w5 w7 := hb56.trans ⟨hgrow7.os, hgrow7.tape, hgrow7.output, hgrow7.size, fun q hq => hgrow7.block q (by omega) (fun e => by have := (hown6.lt q e.symm).1; omega)⟩
          have HB7 := Lib.hid (HB5.out.trans (hb57.mono hz5))
          have hl7 := HL5.out.below hb57
          have hd7 : DkAt c b st w7 := HD5.out.below hb57 HD5.out.lt HD5.out.ltb
          have hsu7 := Wi.ownsRow_keep HSU5.out (fun q hq => hb57.block q (HSU5.out.lt q hq).2)
          have hcell7 : w7.cell? (ad.add k) = some (.slice ya m yc) := (hb57.cell (p := ad.add k) (by rw [block_of_add]; omega)).trans hcell5
          have HYR7 := Lib.hid (HYR5.out.below (hb57.mono hz5))
          have hlow7 : ∀ q, (Value.slice A7 (gl + m) c7).ownBlock = some q → q ∉ c :: b :: T := fun q hq hmem => by
            have h1 := (hown7.lt q hq).1
            simp only [List.mem_cons] at hmem
            rcases hmem with h | h | h
            · have := HD5.out.lt; omega
            · have := HD5.out.ltb; omega
            · have := HL5.out.there q h; omega
          have hsp7 : w7.ownsRow w.heap.size 9 1 (.slice A7 (gl + m) c7) (gl + m) (strs (G.flatten ++ ss)) := by
            rw [strs_append]
            exact own_weaken hown7 hz5
          have HSU7 := Lib.hid hsu7; have HSP7 := Lib.hid hsp7; have HLO7 := Lib.hid hlow7; have HL7 := Lib.hid hl7; have HD7 := Lib.hid hd7
          clear hown7 hgrow7 hlink7 hb57 hown6 hb56 hcell6 hrd6 hz6 hl7 hd7 hsu7 hlow7 hsp7 HB5 HL5 HD5 HSU5 HYR5 hrsu hcell5
          have hdis : (∃ G1 s1, commitR ⟨#[119]⟩ (logOf G false) st ss = (0, logOf G1 false, s1) ∧ Fz s1 (oneF ⟨#[119]⟩ (fileOf G1) ((fileOf G1).size : Nat)) ∧ G1.flatten = G.flatten ++ ss ∧ GInv G1 (k + 1)) ∨ (∃ s1, commitR ⟨#[119]⟩ (logOf G false) st ss = (14, logOf G true, s1) ∧ LeftOf ⟨#[119]⟩ G (G.flatten ++ ss) s1) := by
            by_cases hm0 : ss.length = 0
            · have : ss = [] := List.eq_nil_of_length_eq_zero hm0
              subst this
              exact .inl ⟨G, st, commit_empty _ _ _, HO.out, by simp, HGF.out, by omega, by omega, by rw [HGL.out]; omega⟩
            · rcases commit_fz HO.out HFIT.out.2 hm0 (by omega) with ⟨s1, e1, f1⟩ | ⟨s1, e1, o1, f1⟩
              · refine .inl ⟨G ++ [ss], s1, e1, f1, by simp, fun s hs => ?_, ?_, ?_, ?_⟩
                · rcases List.mem_append.1 hs with h | h
                  · exact HGF.out s h
                  · obtain rfl : s = ss := by simpa using h
                    exact HFIT.out
                · rw [fileOf_snoc, size_app']; omega
                · rw [List.length_append]; simp only [List.length_cons, List.length_nil]; omega
                · rw [List.flatten_append, List.length_append, HGL.out]; simp only [List.flatten_cons, List.flatten_nil, List.append_nil]; rw [HMM.out]; omega
              · exact .inr ⟨s1, e1, o1, HGF.out, by omega, .inr ⟨ss, HFIT.out, rfl, by omega, f1⟩⟩
          have qc := fun (x : Int) (lg' : Lg) (s1 : Dk) (e1 : commitR ⟨#[119]⟩ (logOf G false) st ss = (x, lg', s1)) => Lib.hid (commit_at g c b T ⟨#[119]⟩ (logOf G false) st ss x lg' s1 e1 HO.out.ok m HMM.out ya yc w7 HL7.out HD7.out w.heap.size HYR7.out HB7.out.size (fun h0 ad e => by
            obtain ⟨ad', e', hlt', _⟩ := HYR7.out.2 h0
            rw [e] at e'; injection e' with e'; subst e'
            exact ⟨fun hm => by have := HT.out _ hm; omega, by omega, by omega⟩) (by decide) (by omega) (by omega) (by show G.flatten.length ≤ _; rw [HGL.out]; omega) (by show G.length ≤ _; omega) (by show (fileOf G).size ≤ _; omega))
          rcases hdis with ⟨G1, s1, e1, f1, hfl, hg1⟩ | ⟨s1, e1, hlf⟩
          · have q8 := qc _ _ _ e1
            have HF1 := Lib.hid f1; have HFL := Lib.hid hfl; have HG1 := Lib.hid hg1
            clear qc e1 f1 hfl hg1
            go_wp2_with fail
            refine q8.out.mono ?_
            rintro e w8 ⟨T8, rfl, hl8, hd8, hm8⟩
            obtain ⟨hB8, hT8⟩ := Mv.here HB7.out hm8 hc hb0 HT.out
            obtain ⟨hsp8, hap8⟩ := row_aside HSP7.out hm8 HLO7.out
            have hlen : gl + m = G1.flatten.length := by rw [HFL.out, List.length_append, HGL.out, HMM.out]
            rw [← HFL.out] at hsp8
            have HL8 := Lib.hid hl8; have HD8 := Lib.hid hd8; have HB8 := Lib.hid hB8; have HT8 := Lib.hid hT8; have HLEN := Lib.hid hlen
            have HSP8 : Hid (w8.ownsRow w.heap.size 9 1 (.slice A7 (gl + m) c7) G1.flatten.length (strs G1.flatten)) := by show World.ownsRow _ _ _ _ _ _ _; rw [← hlen]; exact hsp8
            have HAP8 := Lib.hid hap8
            clear q8 hl8 hd8 hm8 hB8 hT8 hsp8 hap8 hlen HB7 HSU7 HSP7 HLO7 HL7 HD7 HYR7 hcell7
            go_wp2
            go_roundw
            case rel => exact ⟨k + 1, T8, s1, G1, G1.flatten, hlt, by go_num, HL8.out, HD8.out, HF1.out, HT8.out, HB8.out, HG1.out, HSP8.out, HAP8.out, HSP8.out, HAP8.out, by show _ ≤ _; have := HG1.out.len; exact this⟩
            case measure => simp [intOf]; omega
          · have q8 := qc _ _ _ e1
            have HLF := Lib.hid hlf
            clear qc e1 hlf
            go_wp2_with fail
            refine q8.out.mono ?_
            rintro e w8 ⟨T8, rfl, hl8, hd8, hm8⟩
            obtain ⟨hB8, _⟩ := Mv.here HB7.out hm8 hc hb0 HT.out
            obtain ⟨hsp8, hap8⟩ := row_aside HSP7.out hm8 HLO7.out
            obtain ⟨hsu8, has8⟩ := row_aside HSU7.out hm8 HAS.out
            obtain ⟨P', hP'⟩ : ∃ P', P' = G.flatten ++ ss := ⟨_, rfl⟩
            obtain ⟨pl, hpl⟩ : ∃ pl, pl = gl + m := ⟨_, rfl⟩
            rw [← hP'] at hsp8 HLF
            rw [← hpl] at hsp8 hap8 ⊢
            have HPL : Hid (P'.length = pl) := by show _ = _; rw [hP', List.length_append, HGL.out, HMM.out, hpl]
            have hpn : pl ≤ k * 20 + 20 := by omega
            have HL := Lib.hid hl8; have HD := Lib.hid hd8; have HB := Lib.hid hB8; have HSU := Lib.hid hsu8; have HSP := Lib.hid hsp8; have HAP2 := Lib.hid hap8
            clear HAS
            have HAS := Lib.hid has8
            clear q8 hl8 hd8 hm8 hB8 hsp8 hap8 hsu8 has8 hP' hpl HB7 HSU7 HSP7 HLO7 HL7 HD7 HYR7 hcell7 P
            obtain ⟨P, hPP⟩ : ∃ P, P = P' := ⟨_, rfl⟩
            rw [← hPP] at HLF HPL HSP
            obtain ⟨st', hst⟩ : ∃ s, s = s1 := ⟨_, rfl⟩
            obtain ⟨TT, hTT⟩ : ∃ t, t = T8 := ⟨_, rfl⟩
            obtain ⟨A9, hA9⟩ : ∃ a, a = A7 := ⟨_, rfl⟩
            obtain ⟨c9, hc9⟩ : ∃ a, a = c7 := ⟨_, rfl⟩
            rw [← hst] at HD HLF
            rw [← hTT] at HL HAS HAP2
            rw [← hA9, ← hc9] at HSP HAP2 ⊢
            clear hPP hst hTT hA9 hc9 HO HT
            have q5 := records_any g c TT _ _ w8 HL.out (by show G.flatten.length ≤ _; rw [HGL.out]; omega)
            change Calls _ _ _ _ fun e w' => ∃ v, e = .returned v ∧ w'.ownsRow w8.heap.size 9 1 v G.flatten.length (strs G.flatten) ∧ Below w8.heap.size w8 w' at q5
            rw [HGL.out] at q5
            go_wp2_with fail
            refine q5.mono ?_
            rintro e u1 ⟨v, rfl, hown, hb⟩
            obtain ⟨A10, c10, rfl, _⟩ := own_form hown
            have hsu := Wi.ownsRow_keep HSU.out (fun q hq => hb.block q (HSU.out.lt q hq).2)
            have q6 := same_any G.flatten G.flatten A10 A8 c10 c8 u1.heap.size u1 (by rw [HGL.out]; exact Reads.of_own hown) (by rw [HGL.out]; exact Reads.of_own hsu) (by rw [HGL.out]; omega) (by rw [HGL.out]; omega)
            rw [HGL.out, sameB_self] at q6
            have UB1 := Lib.hid (HB.out.trans (hb.mono HB.out.size))
            have UD1 := Lib.hid (HD.out.below hb HD.out.lt HD.out.ltb)
            have UP1 := Lib.hid (Wi.ownsRow_keep HSP.out (fun q hq => hb.block q (HSP.out.lt q hq).2))
            have US1 := Lib.hid hsu
            clear q5 hown hb hsu HB HD HSU HSP HL
            go_wp2_with fail
            refine q6.mono ?_
            rintro e u2' ⟨rfl, q, rfl⟩
            obtain ⟨u2, hu2⟩ : ∃ W, u1.drewN q = W := ⟨_, rfl⟩
            have UB2 : Hid (Below w.heap.size w u2) := by show Below _ _ _; rw [← hu2]; exact drewN_below UB1.out q
            have UD2 : Hid (DkAt c b st' u2) := by show DkAt _ _ _ _; rw [← hu2]; exact UD1.out
            have US2 : Hid (u2.ownsRow w.heap.size 9 1 (.slice A8 gl c8) gl (strs G.flatten)) := by show World.ownsRow _ _ _ _ _ _ _; rw [← hu2]; exact US1.out
            have UP2 : Hid (u2.ownsRow w.heap.size 9 1 (.slice A9 pl c9) pl (strs P)) := by show World.ownsRow _ _ _ _ _ _ _; rw [← hu2]; exact UP1.out
            rw [hu2]
            have q7 := crash_any c b st' HLF.out.ok keep A2 c2 u2 UD2.out ((R2.out.below UB2.out).more UB2.out.size) (fun h0 ad e => by
              obtain ⟨ad', e', hlt', _⟩ := R2.out.2 h0
              rw [e] at e'; injection e' with e'; subst e'
              have := UB2.out.size
              exact ⟨by omega, by omega, by omega⟩) S2.out hl2
            obtain ⟨G3, x3, n3, hop, hor⟩ := left_opens HLF.out keep
            obtain ⟨s8, hs8⟩ : ∃ s, crashD st' keep = s := ⟨_, rfl⟩
            rw [hs8] at q7 hop
            have HOP := Lib.hid hop; have HOR := Lib.hid hor
            clear q6 hu2 UB1 UD1 US1 UP1 HLF hop hor hs8
            go_wp2_with fail
            refine q7.mono ?_
            rintro e u3 ⟨rfl, hd3, hm3⟩
            have UB3 := Lib.hid (open_here UB2.out hm3 hc hb0)
            obtain ⟨hs3, _⟩ := row_aside US2.out (T := []) (T' := []) hm3 (fun q hq e => HAS.out q hq (by simp at e ⊢; omega))
            obtain ⟨hp3, _⟩ := row_aside UP2.out (T := []) (T' := []) hm3 (fun q hq e => HAP2.out q hq (by simp at e ⊢; omega))
            have q8 := restore_any c b s8 u3 hd3
            have US3 := Lib.hid hs3; have UP3 := Lib.hid hp3
            clear q7 hd3 hm3 hs3 hp3 UB2 UD2 US2 UP2
            go_wp2_with fail
            refine q8.mono ?_
            rintro e u4 ⟨rfl, hd4, hm4⟩
            have UB4 := Lib.hid (Dk.there1 hc UB3.out hm4)
            have hs4 := Wi.ownsRow_keep US3.out (fun q hq => hm4.block q (US3.out.lt q hq).2 (fun e => HAS.out q hq (by simp at e ⊢; omega)))
            have hp4 := Wi.ownsRow_keep UP3.out (fun q hq => hm4.block q (UP3.out.lt q hq).2 (fun e => HAP2.out q hq (by simp at e ⊢; omega)))
            have q9 := openB c b ⟨#[119]⟩ name_w G3 x3 n3 _ u4 hd4 HOP.out.on1 HOP.out.h0 HOP.out.h1 HOP.out.hg HOP.out.hx HOP.out.hz
            have US4 := Lib.hid hs4; have UP4 := Lib.hid hp4
            clear q8 hd4 hm4 hs4 hp4 UB3 US3 UP3
            go_wp2_with fail
            refine q9.mono ?_
            rintro e u5 ⟨g5, T5, s5, rfl, hl5, hd5, ho5, hT5, hm5⟩
            have UB5 := Lib.hid (open_here UB4.out hm5 hc hb0)
            obtain ⟨hs5, _⟩ := row_aside US4.out (T := []) (T' := []) hm5 (fun q hq e => HAS.out q hq (by simp at e ⊢; omega))
            obtain ⟨hp5, _⟩ := row_aside UP4.out (T := []) (T' := []) hm5 (fun q hq e => HAP2.out q hq (by simp at e ⊢; omega))
            obtain ⟨tl, htl⟩ : ∃ t, G3.flatten.length = t := ⟨_, rfl⟩
            have htl2 : tl ≤ 1000000 := by
              rcases HOR.out with h | h
              · rw [← htl, h, HGL.out]; omega
              · rw [← htl, h, HPL.out]; omega
            have q10 := records_any g5 c T5 _ _ u5 hl5 (by show G3.flatten.length ≤ _; omega)
            change Calls _ _ _ _ fun e w' => ∃ v, e = .returned v ∧ w'.ownsRow u5.heap.size 9 1 v G3.flatten.length (strs G3.flatten) ∧ Below u5.heap.size u5 w' at q10
            rw [htl] at q10
            have HTL := Lib.hid htl
            have UL5 := Lib.hid hl5; have UD5 := Lib.hid hd5; have UO5 := Lib.hid ho5; have US5 := Lib.hid hs5; have UP5 := Lib.hid hp5
            have hap5 := Lib.hid (hl5.apart hd5)
            clear q9 hl5 hd5 ho5 hT5 hm5 hs5 hp5 htl UB4 US4 UP4
            go_wp2_with fail
            refine q10.mono ?_
            rintro e u6 ⟨v, rfl, hown6, hb6⟩
            obtain ⟨A11, c11, rfl, _⟩ := own_form hown6
            have UB6 := Lib.hid (UB5.out.trans (hb6.mono UB5.out.size))
            have UL6 := Lib.hid (UL5.out.below hb6)
            have hd6 : DkAt c b s5 u6 := UD5.out.below hb6 UD5.out.lt UD5.out.ltb
            have US6 := Lib.hid (Wi.ownsRow_keep US5.out (fun q hq => hb6.block q (US5.out.lt q hq).2))
            have UP6 := Lib.hid (Wi.ownsRow_keep UP5.out (fun q hq => hb6.block q (UP5.out.lt q hq).2))
            have UT6 := Lib.hid hown6
            have hlo6 : ∀ q, (Value.slice A11 tl c11).ownBlock = some q → q ≠ c ∧ q ≠ b := fun q hq => by
              have h1 := (hown6.lt q hq).1
              have h2 := UD5.out.lt
              have h3 := UD5.out.ltb
              omega
            have q12 := openB c b ⟨#[119]⟩ name_w G3 ⟨#[]⟩ _ s5 u6 hd6 (by rw [app_empty]; exact UO5.out) (by omega) (by rw [size_app']; have : (⟨#[]⟩ : ByteArray).size = 0 := rfl; omega) (goodOf_tailB HOP.out.fit (by decide)) (fun _ => rfl) (by have := HOP.out.hz; have : (⟨#[]⟩ : ByteArray).size = 0 := rfl; omega)
            clear q10 hown6 hb6 hd6 UB5 UL5 UD5 US5 UP5 UO5
            go_wp2_with fail
            refine q12.mono ?_
            rintro e u7 ⟨g7, T7, s7, rfl, hl7, hd7, ho7, hT7, hm7⟩
            have UB7 := Lib.hid (open_here UB6.out hm7 hc hb0)
            have UL7 := Lib.hid (UL6.out.aside hm7 (fun k hk => by have := hap5.out k hk; simp; omega))
            obtain ⟨hs7, _⟩ := row_aside US6.out (T := []) (T' := []) hm7 (fun q hq e => HAS.out q hq (by simp at e ⊢; omega))
            obtain ⟨hp7, _⟩ := row_aside UP6.out (T := []) (T' := []) hm7 (fun q hq e => HAP2.out q hq (by simp at e ⊢; omega))
            obtain ⟨ht7, _⟩ := row_aside UT6.out (T := []) (T' := []) hm7 (fun q hq e => by have := hlo6 q hq; simp at e; omega)
            have US7 := Lib.hid hs7; have UP7 := Lib.hid hp7; have UT7 := Lib.hid ht7; have UN7 := Lib.hid hl7
            clear q12 hl7 hd7 ho7 hT7 hm7 hs7 hp7 ht7 UB6 UL6 US6 UP6 UT6 hlo6
            go_wp2_with fail
            refine (alive6_any _).mono ?_
            rintro e u8 ⟨rfl, hb8⟩
            have UB8 := Lib.hid (UB7.out.trans (hb8.mono UB7.out.size))
            have hs8 := Wi.ownsRow_keep US7.out (fun q hq => hb8.block q (US7.out.lt q hq).2)
            have hp8 := Wi.ownsRow_keep UP7.out (fun q hq => hb8.block q (UP7.out.lt q hq).2)
            have ht8 := Wi.ownsRow_keep UT7.out (fun q hq => hb8.block q (UT7.out.lt q hq).2)
            have UL8 := Lib.hid (UL7.out.below hb8); have UN8 := Lib.hid (UN7.out.below hb8)
            have q13 := same_any G3.flatten G.flatten A11 A8 c11 c8 u8.heap.size u8 (by rw [HTL.out]; exact Reads.of_own ht8) (by rw [HGL.out]; exact Reads.of_own hs8) (by rw [HTL.out]; omega) (by rw [HGL.out]; omega)
            have q14 := fun (q : Nat) => same_any G3.flatten P A11 A9 c11 c9 u8.heap.size (u8.drewN q) (by rw [HTL.out]; exact (Reads.of_own ht8).drewN q) (by rw [HPL.out]; exact (Reads.of_own hp8).drewN q) (by rw [HTL.out]; omega) (by rw [HPL.out]; omega)
            rw [HTL.out, HGL.out] at q13
            simp only [HTL.out, HPL.out] at q14
            have UT8 := Lib.hid ht8; have Q14 := Lib.hid q14
            clear hb8 hs8 hp8 ht8 UB7 US7 UP7 UT7 UL7 UN7 q14
            by_cases hsame : G3.flatten = G.flatten
            · rw [hsame, sameB_self] at q13
              go_wp2_with fail
              refine q13.mono ?_
              rintro e u9' ⟨rfl, q, rfl⟩
              obtain ⟨u9, hu9⟩ : ∃ W, u8.drewN q = W := ⟨_, rfl⟩
              rw [hu9]
              have UB9 : Hid (Below w.heap.size w u9) := by show Below _ _ _; rw [← hu9]; exact drewN_below UB8.out q
              have ul9 : LogAt g5 c T5 ⟨#[119]⟩ (logOf G3 false) u9 := by rw [← hu9]; exact UL8.out
              have un9 : LogAt g7 c T7 ⟨#[119]⟩ (logOf G3 false) u9 := by rw [← hu9]; exact UN8.out
              have ut9 : u9.ownsRow u5.heap.size 9 1 (.slice A11 tl c11) tl (strs G3.flatten) := by rw [← hu9]; exact UT8.out
              clear q13 hu9 UB8 UL8 UN8 UT8
              have q16 := records_any g7 c T7 _ _ u9 un9 (by show G3.flatten.length ≤ _; rw [HTL.out]; omega)
              change Calls _ _ _ _ fun e w' => ∃ v, e = .returned v ∧ w'.ownsRow u9.heap.size 9 1 v G3.flatten.length (strs G3.flatten) ∧ Below u9.heap.size u9 w' at q16
              rw [HTL.out] at q16
              have UL9 := Lib.hid ul9; have UN9 := Lib.hid un9; have UT9 := Lib.hid ut9
              clear ul9 un9 ut9
              go_wp2_with fail
              refine q16.mono ?_
              rintro e u10 ⟨v, rfl, hown10, hb10⟩
              obtain ⟨A12, c12, rfl, _⟩ := own_form hown10
              have ht10 := Wi.ownsRow_keep UT9.out (fun q hq => hb10.block q (UT9.out.lt q hq).2)
              have q17 := same_any G3.flatten G3.flatten A12 A11 c12 c11 u10.heap.size u10 (by rw [HTL.out]; exact Reads.of_own hown10) (by rw [HTL.out]; exact Reads.of_own ht10) (by rw [HTL.out]; omega) (by rw [HTL.out]; omega)
              rw [HTL.out, sameB_self] at q17
              have UB10 := Lib.hid (UB9.out.trans (hb10.mono UB9.out.size))
              have UL10 := Lib.hid (UL9.out.below hb10); have UN10 := Lib.hid (UN9.out.below hb10)
              clear q16 hown10 hb10 ht10 UB9 UL9 UN9 UT9
              go_wp2_with fail
              refine q17.mono ?_
              rintro e u11' ⟨rfl, q9, rfl⟩
              have q18 := groups_any g7 c T7 _ _ _ (UN10.out.drewN q9)
              have q19 := groups_any g5 c T5 _ _ _ (UL10.out.drewN q9)
              go_wp2_with fail
              refine q18.mono ?_
              rintro e u12 ⟨rfl, rfl⟩
              go_wp2_with fail
              refine q19.mono ?_
              rintro e u12 ⟨rfl, rfl⟩
              go_wp2
              go_ret
              exact ⟨rfl, drewN_below UB10.out q9⟩
            · have hP : G3.flatten = P := HOR.out.resolve_left hsame
              have hne : sameB G3.flatten G.flatten = false := by unfold sameB; exact decide_eq_false hsame
              rw [hne] at q13
              go_wp2_with fail
              refine q13.mono ?_
              rintro e u9' ⟨rfl, q, rfl⟩
              have q15 := Q14.out q
              rw [← hP, sameB_self] at q15
              go_wp2_with fail
              refine q15.mono ?_
              rintro e u9' ⟨rfl, q2, rfl⟩
              obtain ⟨u9, hu9⟩ : ∃ W, (u8.drewN q).drewN q2 = W := ⟨_, rfl⟩
              have UB9 : Hid (Below w.heap.size w u9) := by show Below _ _ _; rw [← hu9]; exact drewN_below (drewN_below UB8.out q) q2
              have ul9 : LogAt g5 c T5 ⟨#[119]⟩ (logOf G3 false) u9 := by rw [← hu9]; exact UL8.out
              have un9 : LogAt g7 c T7 ⟨#[119]⟩ (logOf G3 false) u9 := by rw [← hu9]; exact UN8.out
              have ut9 : u9.ownsRow u5.heap.size 9 1 (.slice A11 tl c11) tl (strs G3.flatten) := by rw [← hu9]; exact UT8.out
              try rw [World.drewN_drewN] at hu9 ⊢
              rw [hu9]
              clear q13 q15 hu9 UB8 UL8 UN8 UT8
              have q16 := records_any g7 c T7 _ _ u9 un9 (by show G3.flatten.length ≤ _; rw [HTL.out]; omega)
              change Calls _ _ _ _ fun e w' => ∃ v, e = .returned v ∧ w'.ownsRow u9.heap.size 9 1 v G3.flatten.length (strs G3.flatten) ∧ Below u9.heap.size u9 w' at q16
              rw [HTL.out] at q16
              have UL9 := Lib.hid ul9; have UN9 := Lib.hid un9; have UT9 := Lib.hid ut9
              clear ul9 un9 ut9
              go_wp2_with fail
              refine q16.mono ?_
              rintro e u10 ⟨v, rfl, hown10, hb10⟩
              obtain ⟨A12, c12, rfl, _⟩ := own_form hown10
              have ht10 := Wi.ownsRow_keep UT9.out (fun q hq => hb10.block q (UT9.out.lt q hq).2)
              have q17 := same_any G3.flatten G3.flatten A12 A11 c12 c11 u10.heap.size u10 (by rw [HTL.out]; exact Reads.of_own hown10) (by rw [HTL.out]; exact Reads.of_own ht10) (by rw [HTL.out]; omega) (by rw [HTL.out]; omega)
              rw [HTL.out, sameB_self] at q17
              have UB10 := Lib.hid (UB9.out.trans (hb10.mono UB9.out.size))
              have UL10 := Lib.hid (UL9.out.below hb10); have UN10 := Lib.hid (UN9.out.below hb10)
              clear q16 hown10 hb10 ht10 UB9 UL9 UN9 UT9
              go_wp2_with fail
              refine q17.mono ?_
              rintro e u11' ⟨rfl, q9, rfl⟩
              have q18 := groups_any g7 c T7 _ _ _ (UN10.out.drewN q9)
              have q19 := groups_any g5 c T5 _ _ _ (UL10.out.drewN q9)
              go_wp2_with fail
              refine q18.mono ?_
              rintro e u12 ⟨rfl, rfl⟩
              go_wp2_with fail
              refine q19.mono ?_
              rintro e u12 ⟨rfl, rfl⟩
              go_wp2
              go_ret
              exact ⟨rfl, drewN_below UB10.out q9⟩
    · obtain rfl : k = n := by omega
      obtain ⟨hgf, hgs, hgn, hgl⟩ := HG.out
      have hpn : P.length ≤ k * 20 := HPN.out
      have HLF : Hid (LeftOf ⟨#[119]⟩ G P st) := ⟨HO.out.ok, hgf, by omega, .inl HO.out.fs_⟩
      obtain ⟨A8, c8, rfl, _⟩ := own_form HSU.out
      obtain ⟨A9, c9, rfl, _⟩ := own_form HSP.out
      obtain ⟨gl, hgl8⟩ : ∃ gl, G.flatten.length = gl := ⟨_, rfl⟩
      obtain ⟨pl, hpl8⟩ : ∃ pl, P.length = pl := ⟨_, rfl⟩
      have hsu := HSU.out; have hsp := HSP.out; have has := HAS.out; have hap := HAP2.out
      rw [hgl8] at hgl hsu has ⊢
      rw [hpl8] at hpn hsp hap ⊢
      have HGL := Lib.hid hgl8; have HPL := Lib.hid hpl8
      clear hgl8 hpl8 HSU HSP HAS HAP2 HG HPN hgf hgs hgn
      have HSU := Lib.hid hsu; have HSP := Lib.hid hsp; have HAS := Lib.hid has; have HAP2 := Lib.hid hap
      clear hsu hsp has hap
      obtain ⟨st', hst⟩ : ∃ s, s = st := ⟨_, rfl⟩
      obtain ⟨TT, hTT⟩ : ∃ t, t = T := ⟨_, rfl⟩
      rw [← hst] at HD HLF
      rw [← hTT] at HL HAS HAP2
      clear hst hTT HO HT
      have q5 := records_any g c TT _ _ wr HL.out (by show G.flatten.length ≤ _; rw [HGL.out]; omega)
      change Calls _ _ _ _ fun e w' => ∃ v, e = .returned v ∧ w'.ownsRow wr.heap.size 9 1 v G.flatten.length (strs G.flatten) ∧ Below wr.heap.size wr w' at q5
      rw [HGL.out] at q5
      go_wp2_with fail
      refine q5.mono ?_
      rintro e u1 ⟨v, rfl, hown, hb⟩
      obtain ⟨A10, c10, rfl, _⟩ := own_form hown
      have hsu := Wi.ownsRow_keep HSU.out (fun q hq => hb.block q (HSU.out.lt q hq).2)
      have q6 := same_any G.flatten G.flatten A10 A8 c10 c8 u1.heap.size u1 (by rw [HGL.out]; exact Reads.of_own hown) (by rw [HGL.out]; exact Reads.of_own hsu) (by rw [HGL.out]; omega) (by rw [HGL.out]; omega)
      rw [HGL.out, sameB_self] at q6
      have UB1 := Lib.hid (HB.out.trans (hb.mono HB.out.size))
      have UD1 := Lib.hid (HD.out.below hb HD.out.lt HD.out.ltb)
      have UP1 := Lib.hid (Wi.ownsRow_keep HSP.out (fun q hq => hb.block q (HSP.out.lt q hq).2))
      have US1 := Lib.hid hsu
      clear q5 hown hb hsu HB HD HSU HSP HL
      go_wp2_with fail
      refine q6.mono ?_
      rintro e u2' ⟨rfl, q, rfl⟩
      obtain ⟨u2, hu2⟩ : ∃ W, u1.drewN q = W := ⟨_, rfl⟩
      have UB2 : Hid (Below w.heap.size w u2) := by show Below _ _ _; rw [← hu2]; exact drewN_below UB1.out q
      have UD2 : Hid (DkAt c b st' u2) := by show DkAt _ _ _ _; rw [← hu2]; exact UD1.out
      have US2 : Hid (u2.ownsRow w.heap.size 9 1 (.slice A8 gl c8) gl (strs G.flatten)) := by show World.ownsRow _ _ _ _ _ _ _; rw [← hu2]; exact US1.out
      have UP2 : Hid (u2.ownsRow w.heap.size 9 1 (.slice A9 pl c9) pl (strs P)) := by show World.ownsRow _ _ _ _ _ _ _; rw [← hu2]; exact UP1.out
      rw [hu2]
      have q7 := crash_any c b st' HLF.out.ok keep A2 c2 u2 UD2.out ((R2.out.below UB2.out).more UB2.out.size) (fun h0 ad e => by
        obtain ⟨ad', e', hlt', _⟩ := R2.out.2 h0
        rw [e] at e'; injection e' with e'; subst e'
        have := UB2.out.size
        exact ⟨by omega, by omega, by omega⟩) S2.out hl2
      obtain ⟨G3, x3, n3, hop, hor⟩ := left_opens HLF.out keep
      obtain ⟨s8, hs8⟩ : ∃ s, crashD st' keep = s := ⟨_, rfl⟩
      rw [hs8] at q7 hop
      have HOP := Lib.hid hop; have HOR := Lib.hid hor
      clear q6 hu2 UB1 UD1 US1 UP1 HLF hop hor hs8
      go_wp2_with fail
      refine q7.mono ?_
      rintro e u3 ⟨rfl, hd3, hm3⟩
      have UB3 := Lib.hid (open_here UB2.out hm3 hc hb0)
      obtain ⟨hs3, _⟩ := row_aside US2.out (T := []) (T' := []) hm3 (fun q hq e => HAS.out q hq (by simp at e ⊢; omega))
      obtain ⟨hp3, _⟩ := row_aside UP2.out (T := []) (T' := []) hm3 (fun q hq e => HAP2.out q hq (by simp at e ⊢; omega))
      have q8 := restore_any c b s8 u3 hd3
      have US3 := Lib.hid hs3; have UP3 := Lib.hid hp3
      clear q7 hd3 hm3 hs3 hp3 UB2 UD2 US2 UP2
      go_wp2_with fail
      refine q8.mono ?_
      rintro e u4 ⟨rfl, hd4, hm4⟩
      have UB4 := Lib.hid (Dk.there1 hc UB3.out hm4)
      have hs4 := Wi.ownsRow_keep US3.out (fun q hq => hm4.block q (US3.out.lt q hq).2 (fun e => HAS.out q hq (by simp at e ⊢; omega)))
      have hp4 := Wi.ownsRow_keep UP3.out (fun q hq => hm4.block q (UP3.out.lt q hq).2 (fun e => HAP2.out q hq (by simp at e ⊢; omega)))
      have q9 := openB c b ⟨#[119]⟩ name_w G3 x3 n3 _ u4 hd4 HOP.out.on1 HOP.out.h0 HOP.out.h1 HOP.out.hg HOP.out.hx HOP.out.hz
      have US4 := Lib.hid hs4; have UP4 := Lib.hid hp4
      clear q8 hd4 hm4 hs4 hp4 UB3 US3 UP3
      go_wp2_with fail
      refine q9.mono ?_
      rintro e u5 ⟨g5, T5, s5, rfl, hl5, hd5, ho5, hT5, hm5⟩
      have UB5 := Lib.hid (open_here UB4.out hm5 hc hb0)
      obtain ⟨hs5, _⟩ := row_aside US4.out (T := []) (T' := []) hm5 (fun q hq e => HAS.out q hq (by simp at e ⊢; omega))
      obtain ⟨hp5, _⟩ := row_aside UP4.out (T := []) (T' := []) hm5 (fun q hq e => HAP2.out q hq (by simp at e ⊢; omega))
      obtain ⟨tl, htl⟩ : ∃ t, G3.flatten.length = t := ⟨_, rfl⟩
      have htl2 : tl ≤ 1000000 := by
        rcases HOR.out with h | h
        · rw [← htl, h, HGL.out]; omega
        · rw [← htl, h, HPL.out]; omega
      have q10 := records_any g5 c T5 _ _ u5 hl5 (by show G3.flatten.length ≤ _; omega)
      change Calls _ _ _ _ fun e w' => ∃ v, e = .returned v ∧ w'.ownsRow u5.heap.size 9 1 v G3.flatten.length (strs G3.flatten) ∧ Below u5.heap.size u5 w' at q10
      rw [htl] at q10
      have HTL := Lib.hid htl
      have UL5 := Lib.hid hl5; have UD5 := Lib.hid hd5; have UO5 := Lib.hid ho5; have US5 := Lib.hid hs5; have UP5 := Lib.hid hp5
      have hap5 := Lib.hid (hl5.apart hd5)
      clear q9 hl5 hd5 ho5 hT5 hm5 hs5 hp5 htl UB4 US4 UP4
      go_wp2_with fail
      refine q10.mono ?_
      rintro e u6 ⟨v, rfl, hown6, hb6⟩
      obtain ⟨A11, c11, rfl, _⟩ := own_form hown6
      have UB6 := Lib.hid (UB5.out.trans (hb6.mono UB5.out.size))
      have UL6 := Lib.hid (UL5.out.below hb6)
      have hd6 : DkAt c b s5 u6 := UD5.out.below hb6 UD5.out.lt UD5.out.ltb
      have US6 := Lib.hid (Wi.ownsRow_keep US5.out (fun q hq => hb6.block q (US5.out.lt q hq).2))
      have UP6 := Lib.hid (Wi.ownsRow_keep UP5.out (fun q hq => hb6.block q (UP5.out.lt q hq).2))
      have UT6 := Lib.hid hown6
      have hlo6 : ∀ q, (Value.slice A11 tl c11).ownBlock = some q → q ≠ c ∧ q ≠ b := fun q hq => by
        have h1 := (hown6.lt q hq).1
        have h2 := UD5.out.lt
        have h3 := UD5.out.ltb
        omega
      have q12 := openB c b ⟨#[119]⟩ name_w G3 ⟨#[]⟩ _ s5 u6 hd6 (by rw [app_empty]; exact UO5.out) (by omega) (by rw [size_app']; have : (⟨#[]⟩ : ByteArray).size = 0 := rfl; omega) (goodOf_tailB HOP.out.fit (by decide)) (fun _ => rfl) (by have := HOP.out.hz; have : (⟨#[]⟩ : ByteArray).size = 0 := rfl; omega)
      clear q10 hown6 hb6 hd6 UB5 UL5 UD5 US5 UP5 UO5
      go_wp2_with fail
      refine q12.mono ?_
      rintro e u7 ⟨g7, T7, s7, rfl, hl7, hd7, ho7, hT7, hm7⟩
      have UB7 := Lib.hid (open_here UB6.out hm7 hc hb0)
      have UL7 := Lib.hid (UL6.out.aside hm7 (fun k hk => by have := hap5.out k hk; simp; omega))
      obtain ⟨hs7, _⟩ := row_aside US6.out (T := []) (T' := []) hm7 (fun q hq e => HAS.out q hq (by simp at e ⊢; omega))
      obtain ⟨hp7, _⟩ := row_aside UP6.out (T := []) (T' := []) hm7 (fun q hq e => HAP2.out q hq (by simp at e ⊢; omega))
      obtain ⟨ht7, _⟩ := row_aside UT6.out (T := []) (T' := []) hm7 (fun q hq e => by have := hlo6 q hq; simp at e; omega)
      have US7 := Lib.hid hs7; have UP7 := Lib.hid hp7; have UT7 := Lib.hid ht7; have UN7 := Lib.hid hl7
      clear q12 hl7 hd7 ho7 hT7 hm7 hs7 hp7 ht7 UB6 UL6 US6 UP6 UT6 hlo6
      go_wp2_with fail
      refine (alive6_any _).mono ?_
      rintro e u8 ⟨rfl, hb8⟩
      have UB8 := Lib.hid (UB7.out.trans (hb8.mono UB7.out.size))
      have hs8 := Wi.ownsRow_keep US7.out (fun q hq => hb8.block q (US7.out.lt q hq).2)
      have hp8 := Wi.ownsRow_keep UP7.out (fun q hq => hb8.block q (UP7.out.lt q hq).2)
      have ht8 := Wi.ownsRow_keep UT7.out (fun q hq => hb8.block q (UT7.out.lt q hq).2)
      have UL8 := Lib.hid (UL7.out.below hb8); have UN8 := Lib.hid (UN7.out.below hb8)
      have q13 := same_any G3.flatten G.flatten A11 A8 c11 c8 u8.heap.size u8 (by rw [HTL.out]; exact Reads.of_own ht8) (by rw [HGL.out]; exact Reads.of_own hs8) (by rw [HTL.out]; omega) (by rw [HGL.out]; omega)
      have q14 := fun (q : Nat) => same_any G3.flatten P A11 A9 c11 c9 u8.heap.size (u8.drewN q) (by rw [HTL.out]; exact (Reads.of_own ht8).drewN q) (by rw [HPL.out]; exact (Reads.of_own hp8).drewN q) (by rw [HTL.out]; omega) (by rw [HPL.out]; omega)
      rw [HTL.out, HGL.out] at q13
      simp only [HTL.out, HPL.out] at q14
      have UT8 := Lib.hid ht8; have Q14 := Lib.hid q14
      clear hb8 hs8 hp8 ht8 UB7 US7 UP7 UT7 UL7 UN7 q14
      by_cases hsame : G3.flatten = G.flatten
      · rw [hsame, sameB_self] at q13
        go_wp2_with fail
        refine q13.mono ?_
        rintro e u9' ⟨rfl, q, rfl⟩
        obtain ⟨u9, hu9⟩ : ∃ W, u8.drewN q = W := ⟨_, rfl⟩
        rw [hu9]
        have UB9 : Hid (Below w.heap.size w u9) := by show Below _ _ _; rw [← hu9]; exact drewN_below UB8.out q
        have ul9 : LogAt g5 c T5 ⟨#[119]⟩ (logOf G3 false) u9 := by rw [← hu9]; exact UL8.out
        have un9 : LogAt g7 c T7 ⟨#[119]⟩ (logOf G3 false) u9 := by rw [← hu9]; exact UN8.out
        have ut9 : u9.ownsRow u5.heap.size 9 1 (.slice A11 tl c11) tl (strs G3.flatten) := by rw [← hu9]; exact UT8.out
        clear q13 hu9 UB8 UL8 UN8 UT8
        have q16 := records_any g7 c T7 _ _ u9 un9 (by show G3.flatten.length ≤ _; rw [HTL.out]; omega)
        change Calls _ _ _ _ fun e w' => ∃ v, e = .returned v ∧ w'.ownsRow u9.heap.size 9 1 v G3.flatten.length (strs G3.flatten) ∧ Below u9.heap.size u9 w' at q16
        rw [HTL.out] at q16
        have UL9 := Lib.hid ul9; have UN9 := Lib.hid un9; have UT9 := Lib.hid ut9
        clear ul9 un9 ut9
        go_wp2_with fail
        refine q16.mono ?_
        rintro e u10 ⟨v, rfl, hown10, hb10⟩
        obtain ⟨A12, c12, rfl, _⟩ := own_form hown10
        have ht10 := Wi.ownsRow_keep UT9.out (fun q hq => hb10.block q (UT9.out.lt q hq).2)
        have q17 := same_any G3.flatten G3.flatten A12 A11 c12 c11 u10.heap.size u10 (by rw [HTL.out]; exact Reads.of_own hown10) (by rw [HTL.out]; exact Reads.of_own ht10) (by rw [HTL.out]; omega) (by rw [HTL.out]; omega)
        rw [HTL.out, sameB_self] at q17
        have UB10 := Lib.hid (UB9.out.trans (hb10.mono UB9.out.size))
        have UL10 := Lib.hid (UL9.out.below hb10); have UN10 := Lib.hid (UN9.out.below hb10)
        clear q16 hown10 hb10 ht10 UB9 UL9 UN9 UT9
        go_wp2_with fail
        refine q17.mono ?_
        rintro e u11' ⟨rfl, q9, rfl⟩
        have q18 := groups_any g7 c T7 _ _ _ (UN10.out.drewN q9)
        have q19 := groups_any g5 c T5 _ _ _ (UL10.out.drewN q9)
        go_wp2_with fail
        refine q18.mono ?_
        rintro e u12 ⟨rfl, rfl⟩
        go_wp2_with fail
        refine q19.mono ?_
        rintro e u12 ⟨rfl, rfl⟩
        go_wp2
        go_ret
        exact ⟨rfl, drewN_below UB10.out q9⟩
      · have hP : G3.flatten = P := HOR.out.resolve_left hsame
        have hne : sameB G3.flatten G.flatten = false := by unfold sameB; exact decide_eq_false hsame
        rw [hne] at q13
        go_wp2_with fail
        refine q13.mono ?_
        rintro e u9' ⟨rfl, q, rfl⟩
        have q15 := Q14.out q
        rw [← hP, sameB_self] at q15
        go_wp2_with fail
        refine q15.mono ?_
        rintro e u9' ⟨rfl, q2, rfl⟩
        obtain ⟨u9, hu9⟩ : ∃ W, (u8.drewN q).drewN q2 = W := ⟨_, rfl⟩
        have UB9 : Hid (Below w.heap.size w u9) := by show Below _ _ _; rw [← hu9]; exact drewN_below (drewN_below UB8.out q) q2
        have ul9 : LogAt g5 c T5 ⟨#[119]⟩ (logOf G3 false) u9 := by rw [← hu9]; exact UL8.out
        have un9 : LogAt g7 c T7 ⟨#[119]⟩ (logOf G3 false) u9 := by rw [← hu9]; exact UN8.out
        have ut9 : u9.ownsRow u5.heap.size 9 1 (.slice A11 tl c11) tl (strs G3.flatten) := by rw [← hu9]; exact UT8.out
        try rw [World.drewN_drewN] at hu9 ⊢
        rw [hu9]
        clear q13 q15 hu9 UB8 UL8 UN8 UT8
        have q16 := records_any g7 c T7 _ _ u9 un9 (by show G3.flatten.length ≤ _; rw [HTL.out]; omega)
        change Calls _ _ _ _ fun e w' => ∃ v, e = .returned v ∧ w'.ownsRow u9.heap.size 9 1 v G3.flatten.length (strs G3.flatten) ∧ Below u9.heap.size u9 w' at q16
        rw [HTL.out] at q16
        have UL9 := Lib.hid ul9; have UN9 := Lib.hid un9; have UT9 := Lib.hid ut9
        clear ul9 un9 ut9
        go_wp2_with fail
        refine q16.mono ?_
        rintro e u10 ⟨v, rfl, hown10, hb10⟩
        obtain ⟨A12, c12, rfl, _⟩ := own_form hown10
        have ht10 := Wi.ownsRow_keep UT9.out (fun q hq => hb10.block q (UT9.out.lt q hq).2)
        have q17 := same_any G3.flatten G3.flatten A12 A11 c12 c11 u10.heap.size u10 (by rw [HTL.out]; exact Reads.of_own hown10) (by rw [HTL.out]; exact Reads.of_own ht10) (by rw [HTL.out]; omega) (by rw [HTL.out]; omega)
        rw [HTL.out, sameB_self] at q17
        have UB10 := Lib.hid (UB9.out.trans (hb10.mono UB9.out.size))
        have UL10 := Lib.hid (UL9.out.below hb10); have UN10 := Lib.hid (UN9.out.below hb10)
        clear q16 hown10 hb10 ht10 UB9 UL9 UN9 UT9
        go_wp2_with fail
        refine q17.mono ?_
        rintro e u11' ⟨rfl, q9, rfl⟩
        have q18 := groups_any g7 c T7 _ _ _ (UN10.out.drewN q9)
        have q19 := groups_any g5 c T5 _ _ _ (UL10.out.drewN q9)
        go_wp2_with fail
        refine q18.mono ?_
        rintro e u12 ⟨rfl, rfl⟩
        go_wp2_with fail
        refine q19.mono ?_
        rintro e u12 ⟨rfl, rfl⟩
        go_wp2
        go_ret
        exact ⟨rfl, drewN_below UB10.out q9⟩
end Go.Proofs.YtfmbadinfhpihaaGreat
