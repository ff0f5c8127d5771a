/-
  WalBroken: once the power failed nothing is committed any more, and what was stays.
  Conditions: lists of texts, a number.
-/
import Derived.Test.YtfmbadinfhpihaaGreatWalC
import Derived.Test.YtfmbadinfhpihaaGreatShort
import Derived.Test.YtfmbadinfhpihaaGreatSameT
namespace Go.Proofs.YtfmbadinfhpihaaGreat
open Go.RowKit Go.Maps
set_option maxRecDepth 100000

theorem short_total {few rm : Nat} {ss : List ByteArray} (h : shortB few rm ss = true) : ss.length ≤ few ∧ total ss ≤ rm := shortB_iff.1 h
theorem short_long {few rm : Nat} {ss : List ByteArray} (h : shortB few rm ss = true) (hr : rm < 60000) : longB ss = false := by
  have h2 := (short_total h).2
  unfold longB
  rw [List.any_eq_false]
  intro s hs
  have := size_le_total hs
  simp only [decide_eq_true_eq]
  omega
theorem firstD_ok : ∀ (D : List (Dk → Int × Dk)), (∀ d ∈ D, ∀ st : Dk, st.Ok → (d st).2.Ok) → ∀ st : Dk, st.Ok → (firstD D st).2.Ok
  | [], _, _, h => h
  | d :: D, hD, st, h => by
    unfold firstD
    split
    · exact firstD_ok D (fun e he => hD e (by simp [he])) _ (hD d (by simp) st h)
    · exact hD d (by simp) st h
theorem commitD_ok (nm y : ByteArray) {st : Dk} (h : st.Ok) : (firstD (commitD nm y) st).2.Ok := firstD_ok _ (fun d hd st h => by
  unfold commitD at hd
  simp only [List.mem_cons, List.not_mem_nil, or_false] at hd
  rcases hd with rfl | rfl
  · exact append_ok h _ _
  · exact sync_ok h _) st h
theorem restore_ok {st : Dk} (h : st.Ok) : (restoreD st).Ok := ⟨h.good, h.ops0, h.ops1, h.left0, h.left1, h.few, h.tot⟩
theorem fuse_ok {st : Dk} (h : st.Ok) {n : Int} (h0 : -9223372036854775808 ≤ n) (h1 : n ≤ 9223372036854775807) : (fuseD st n).Ok := ⟨h.good, h.ops0, h.ops1, h0, h1, h.few, h.tot⟩
/-- A commit at which the power fails: the first operation, or the second one. -/
theorem commit_fails0 {nm d y : ByteArray} {st : Dk} {n : Int} (hon : st.on = true) (hfu : st.fused = true) (hl : st.left = 0) (hfs : st.fs = oneF nm d n) (hd : d.size + y.size ≤ 400000) : firstD (commitD nm y) st = (14, ⟨false, false, 0, min (st.ops + 1) 4611686018427387904, oneF nm (d ++ y) n⟩) := by
  have e : opD st = (⟨false, false, st.left, min (st.ops + 1) 4611686018427387904, st.fs⟩, true) := by unfold opD; rw [if_pos hfu, if_neg (by rw [hl]; decide)]
  have ha := append_gen hon (s := nm) (x := y) (by rw [hfs]; exact has_one) (by rw [hfs, tot_one]; exact hd)
  rw [e, hfs, at_one, put_one, hl] at ha
  have ha2 : appendD st nm y = (14, ⟨false, false, 0, min (st.ops + 1) 4611686018427387904, oneF nm (d ++ y) n⟩) := by rw [ha]; rfl
  unfold commitD
  simp only [firstD, ha2]
  rw [if_neg (show ¬ ((14 : Int) = 0) by decide)]
theorem commit_fails1 {nm d y : ByteArray} {st : Dk} {n : Int} (hon : st.on = true) (hfu : st.fused = true) (hl : st.left = 1) (hfs : st.fs = oneF nm d n) (hd : d.size + y.size ≤ 400000) : firstD (commitD nm y) st = (14, ⟨false, false, 0, min (min (st.ops + 1) 4611686018427387904 + 1) 4611686018427387904, oneF nm (d ++ y) n⟩) := by
  have e : opD st = (⟨st.on, true, st.left - 1, min (st.ops + 1) 4611686018427387904, st.fs⟩, false) := by unfold opD; rw [if_pos hfu, if_pos (by rw [hl]; decide)]
  have ha := append_gen hon (s := nm) (x := y) (by rw [hfs]; exact has_one) (by rw [hfs, tot_one]; exact hd)
  rw [e, hfs, at_one, put_one, hl, hon] at ha
  have e2 : syncD ((⟨true, true, 1 - 1, min (st.ops + 1) 4611686018427387904, oneF nm d n⟩ : Dk).with (oneF nm (d ++ y) n)) nm = (14, ⟨false, false, 0, min (min (st.ops + 1) 4611686018427387904 + 1) 4611686018427387904, oneF nm (d ++ y) n⟩) := rfl
  unfold commitD
  simp only [firstD, ha]
  rw [if_pos (show (if false = true then (14 : Int) else 0) = 0 by decide), e2]
  rw [if_neg (show ¬ ((14 : Int) = 0) by decide)]
/-- The first commit, of nothing too. -/
theorem commit_one {nm : ByteArray} {G : List (List ByteArray)} {st : Dk} {ss : List ByteArray} (h : On1 st (oneF nm (fileOf G) ((fileOf G).size : Nat))) (hl : longB ss = false) (hd : (fileOf G).size + (total ss + 9 * ss.length + 19) ≤ 400000) :
    ∃ G1 st', commitR nm (logOf G false) st ss = (0, logOf G1 false, st') ∧ On1 st' (oneF nm (fileOf G1) ((fileOf G1).size : Nat)) ∧ G1.flatten = G.flatten ++ ss ∧ (fileOf G1).size ≤ (fileOf G).size + (total ss + 9 * ss.length + 19) ∧ G1.length ≤ G.length + 1 ∧ (G1 = if ss.length = 0 then G else G ++ [ss]) := by
  by_cases h0 : ss.length = 0
  · have : ss = [] := List.eq_nil_of_length_eq_zero h0
    subst this
    exact ⟨G, st, commit_empty nm G st, h, by simp, by omega, by omega, by rw [if_pos h0]⟩
  · have hg := group_len ss
    obtain ⟨st', e, h'⟩ := commit_on h hl h0 (by omega)
    refine ⟨G ++ [ss], st', e, h', by simp, ?_, by simp, by rw [if_neg h0]⟩
    rw [fileOf_snoc, size_app']
    omega
set_option maxHeartbeats 16000000 in
theorem wbroken_walk (s1 s2 : List ByteArray) (A1 A2 : Option Addr) (c1 c2 : Nat) (n : Int) (w : World) (hr1 : Reads w w.heap.size 1 A1 s1.length (strs s1)) (hr2 : Reads w w.heap.size 1 A2 s2.length (strs s2)) (hl1 : s1.length ≤ 9223372036854775807) (hl2 : s2.length ≤ 9223372036854775807)
    (hs1 : ∀ s ∈ s1, s.size ≤ 9223372036854775807) (hs2 : ∀ s ∈ s2, s.size ≤ 9223372036854775807) (hn0 : -9223372036854775808 ≤ n) (hn1 : n ≤ 9223372036854775807) :
    Calls Tryz.prog 7 #[.slice A1 s1.length c1, .slice A2 s2.length c2, .int .i64 n] w fun e w' => e = .returned (.bool true) ∧ Below w.heap.size w w' := by
  have qs1 := fun W (hb : Below w.heap.size w W) => short_any 10 3000 (by decide) (by decide) s1 A1 c1 W ((hr1.below hb).more hb.size) hl1 hs1
  have qs2 := fun W (hb : Below w.heap.size w W) => short_any 10 3000 (by decide) (by decide) s2 A2 c2 W ((hr2.below hb).more hb.size) hl2 hs2
  obtain ⟨m1, hm1⟩ : ∃ m, s1.length = m := ⟨_, rfl⟩
  obtain ⟨m2, hm2⟩ : ∃ m, s2.length = m := ⟨_, rfl⟩
  obtain ⟨b1, hb1⟩ : ∃ b, shortB 10 3000 s1 = b := ⟨_, rfl⟩
  obtain ⟨b2, hb2⟩ : ∃ b, shortB 10 3000 s2 = b := ⟨_, rfl⟩
  rw [hm1] at hr1 hl1 qs1 ⊢
  rw [hm2] at hr2 hl2 qs2 ⊢
  rw [hb1] at qs1
  rw [hb2] at qs2
  have Q1 := Lib.hid qs1; have Q2 := Lib.hid qs2; have R1 := Lib.hid hr1; have R2 := Lib.hid hr2; have M1 := Lib.hid hm1; have M2 := Lib.hid hm2; have B1 := Lib.hid hb1; have B2 := Lib.hid hb2
  clear qs1 qs2 hr1 hr2 hm1 hm2 hb1 hb2 hs1 hs2
  by_cases g1 : 10 < m1
  · go_enter Tryz.func7, Tryz.ntmps7
    go_wp2_with fail
    refine (alive6_any _).mono ?_
    rintro e w1 ⟨rfl, hb1⟩
    go_wp2
    go_ret
    exact ⟨rfl, hb1⟩
  by_cases g2 : 10 < m2
  · go_enter Tryz.func7, Tryz.ntmps7
    go_wp2_with fail
    refine (alive6_any _).mono ?_
    rintro e w1 ⟨rfl, hb1⟩
    go_wp2
    go_ret
    exact ⟨rfl, hb1⟩
  by_cases g3 : m2 = 0
  · have hb3 : ((m2 : Int) == 0) = true := by rw [g3]; rfl
    clear g3
    go_enter Tryz.func7, Tryz.ntmps7
    go_wp2_with fail
    refine (alive6_any _).mono ?_
    rintro e w1 ⟨rfl, hb1⟩
    go_wp2
    go_ret
    exact ⟨rfl, hb1⟩
  have hb3 : ((m2 : Int) == 0) = false := beq_false_of_ne (by omega)
  by_cases g4 : n < 0
  · go_enter Tryz.func7, Tryz.ntmps7
    go_wp2_with fail
    refine (alive6_any _).mono ?_
    rintro e w1 ⟨rfl, hb1⟩
    go_wp2
    go_ret
    exact ⟨rfl, hb1⟩
  by_cases g5 : 1 < n
  · go_enter Tryz.func7, Tryz.ntmps7
    go_wp2_with fail
    refine (alive6_any _).mono ?_
    rintro e w1 ⟨rfl, hb1⟩
    go_wp2
    go_ret
    exact ⟨rfl, hb1⟩
  cases b1
  · go_enter Tryz.func7, Tryz.ntmps7
    go_wp2_with fail
    refine (Q1.out w (Below.refl _ _)).mono ?_
    rintro e w1 ⟨rfl, hb1⟩
    have HB1 := Lib.hid hb1
    clear hb1
    go_wp2_with fail
    refine (alive6_any _).mono ?_
    rintro e w9 ⟨rfl, hb9⟩
    have HB9 := Lib.hid (HB1.out.trans (hb9.mono HB1.out.size))
    clear hb9
    go_wp2
    go_ret
    exact ⟨rfl, HB9.out⟩
  · cases b2
    · go_enter Tryz.func7, Tryz.ntmps7
      go_wp2_with fail
      refine (Q1.out w (Below.refl _ _)).mono ?_
      rintro e w1 ⟨rfl, hb1⟩
      have HB1 := Lib.hid hb1
      clear hb1
      go_wp2_with fail
      refine (Q2.out w1 HB1.out).mono ?_
      rintro e w2 ⟨rfl, hb2⟩
      have HB2 := Lib.hid (HB1.out.trans (hb2.mono HB1.out.size))
      clear hb2 HB1
      go_wp2_with fail
      refine (alive6_any _).mono ?_
      rintro e w9 ⟨rfl, hb9⟩
      have HB9 := Lib.hid (HB2.out.trans (hb9.mono HB2.out.size))
      clear hb9
      go_wp2
      go_ret
      exact ⟨rfl, HB9.out⟩
    · have nm := name_w
      obtain ⟨hl1, ht1⟩ := short_total B1.out
      obtain ⟨hl2, ht2⟩ := short_total B2.out
      have hlo1 := short_long B1.out (by decide)
      have hlo2 := short_long B2.out (by decide)
      rw [M1.out] at hl1
      rw [M2.out] at hl2
      have gl2 := group_len s2
      rw [M2.out] at gl2
      have LO1 := Lib.hid hlo1; have LO2 := Lib.hid hlo2
      clear hlo1 hlo2
      go_enter Tryz.func7, Tryz.ntmps7
      go_wp2_with fail
      refine (Q1.out w (Below.refl _ _)).mono ?_
      rintro e w1 ⟨rfl, hb1⟩
      have HB1 := Lib.hid hb1
      clear hb1
      go_wp2_with fail
      refine (Q2.out w1 HB1.out).mono ?_
      rintro e w2 ⟨rfl, hb2⟩
      have HB2 := Lib.hid (HB1.out.trans (hb2.mono HB1.out.size))
      clear hb2 HB1
      go_wp2_with fail
      refine (new_any _).mono ?_
      rintro e w3 ⟨c, b, rfl, h3, hc3, hb3, hbel3⟩
      have hz2 := HB2.out.size
      have hc : w.heap.size ≤ c := by omega
      have hb : w.heap.size ≤ b := by omega
      have HB3 := Lib.hid (HB2.out.trans (hbel3.mono hz2))
      have q := openA c b ⟨#[119]⟩ name_w newDk w3 h3 on1_new
      clear hbel3 h3 hc3 hb3 HB2 hz2
      go_wp2_with fail
      refine q.mono ?_
      rintro e w4 ⟨g, T4, s4, rfl, hl4, hd4, ho4, hT4, hm4⟩
      have HB4 := Lib.hid (open_here HB3.out hm4 hc hb)
      have HT4 : Hid (∀ k, k ∈ T4 → w.heap.size ≤ k) := fun k hk => Nat.le_trans HB3.out.size (hT4 k hk)
      obtain ⟨G1, s5, e5, ho5, hfl5, hsz5, hln5, _⟩ := commit_one ho4 LO1.out (by rw [size_nil, M1.out]; omega)
      rw [size_nil, M1.out] at hsz5
      simp only [List.flatten_nil, List.nil_append, List.length_nil] at hfl5 hln5
      have q5 := commit_at g c b T4 ⟨#[119]⟩ (logOf [] false) s4 s1 0 _ _ e5 ho4.ok m1 M1.out A1 c1 w4 hl4 hd4 w.heap.size (R1.out.below HB4.out) HB4.out.size (fun h0 ad e => by
        obtain ⟨ad', e', hlt, _⟩ := R1.out.2 h0
        rw [e] at e'; injection e' with e'; subst e'
        exact ⟨fun hm => by have := HT4.out _ hm; omega, by omega, by omega⟩) (by decide) (by omega) (by omega) (by decide) (by decide) (by decide)
      have HO5 := Lib.hid ho5; have HFL := Lib.hid hfl5
      clear q hl4 hd4 ho4 hT4 hm4 e5 ho5 hfl5 HB3
      go_wp2_with fail
      refine q5.mono ?_
      rintro e w5 ⟨T5, rfl, hl5, hd5, hm5⟩
      obtain ⟨hB5, hT5⟩ := Mv.here HB4.out hm5 hc hb HT4.out
      have HB5 := Lib.hid hB5; have HT5 := Lib.hid hT5; have HL5 := Lib.hid hl5
      have hap5 := hl5.apart hd5
      have q6 := fuse_any c b s5 n w5 hd5
      have ok6 := fuse_ok HO5.out.ok (n := n) (by omega) (by omega)
      obtain ⟨s7, hs7⟩ : ∃ s7, firstD (commitD ⟨#[119]⟩ (groupB s2)) (fuseD s5 n) = (14, s7) := by
        have hfu : (fuseD s5 n).fused = true := by show decide (0 ≤ n) = true; rw [decide_eq_true]; omega
        rcases (show n = 0 ∨ n = 1 by omega) with h | h
        · exact ⟨_, commit_fails0 (st := fuseD s5 n) HO5.out.on hfu h HO5.out.fs_ (by omega)⟩
        · exact ⟨_, commit_fails1 (st := fuseD s5 n) HO5.out.on hfu h HO5.out.fs_ (by omega)⟩
      have ok7 : s7.Ok := by have h := commitD_ok ⟨#[119]⟩ (groupB s2) ok6; rw [hs7] at h; exact h
      have e7 : commitR ⟨#[119]⟩ (logOf G1 false) (fuseD s5 n) s2 = (14, logOf G1 true, s7) := by
        rw [commit_of LO2.out (by rw [M2.out]; exact g3) hs7, if_neg (show ¬ ((14 : Int) = 0) by decide)]
      obtain ⟨s6, hs6⟩ : ∃ s6, fuseD s5 n = s6 := ⟨_, rfl⟩
      rw [hs6] at q6 ok6 e7
      have E7 := Lib.hid e7
      clear q5 hl5 hd5 hm5 hB5 hT5 HB4 HT4 hs7 hs6 e7
      go_wp2_with fail
      refine q6.mono ?_
      rintro e w6 ⟨rfl, hd6, hm6⟩
      have HB6 := Lib.hid (Dk.there1 hc HB5.out hm6)
      have HL6 := Lib.hid (HL5.out.aside hm6 (fun k hk => by have := hap5 k hk; simp; omega))
      have hrl : (logOf G1 false).recs.length ≤ 1000000 := by show G1.flatten.length ≤ _; rw [HFL.out, M1.out]; omega
      have q7 := commit_at g c b T5 ⟨#[119]⟩ (logOf G1 false) s6 s2 14 _ _ E7.out ok6 m2 M2.out A2 c2 w6 HL6.out hd6 w.heap.size (R2.out.below HB6.out) HB6.out.size (fun h0 ad e => by
        obtain ⟨ad', e', hlt, _⟩ := R2.out.2 h0
        rw [e] at e'; injection e' with e'; subst e'
        exact ⟨fun hm => by have := HT5.out _ hm; omega, by omega, by omega⟩) (by decide) (by omega) (by omega) hrl (by show G1.length ≤ _; omega) (by show (fileOf G1).size ≤ _; omega)
      have OK7 := Lib.hid ok7
      clear q6 hd6 hm6 hap5 HB5 HL5 ok6 ok7 E7
      go_wp2_with fail
      refine q7.mono ?_
      rintro e w7 ⟨T7, rfl, hl7, hd7, hm7⟩
      obtain ⟨hB7, hT7⟩ := Mv.here HB6.out hm7 hc hb HT5.out
      have HB7 := Lib.hid hB7; have HT7 := Lib.hid hT7; have HL7 := Lib.hid hl7
      have hap7 := hl7.apart hd7
      have q8 := crash_any c b s7 OK7.out [] none 0 w7 hd7 Reads.none_ (fun h => absurd h (by decide)) (by simp) (by decide)
      have ok8 := crashD_ok OK7.out []
      obtain ⟨s8, hs8⟩ : ∃ s8, crashD s7 [] = s8 := ⟨_, rfl⟩
      rw [hs8] at q8 ok8
      have OK8 := Lib.hid ok8
      clear q7 hl7 hd7 hm7 hB7 hT7 HB6 HL6 hs8 ok8 OK7 HT5
      go_wp2_with fail
      refine q8.mono ?_
      rintro e w8 ⟨rfl, hd8, hm8⟩
      have HB8 := Lib.hid (open_here HB7.out hm8 hc hb)
      have HL8 := Lib.hid (HL7.out.aside hm8 (fun k hk => by have := hap7 k hk; simp; omega))
      have q9 := restore_any c b s8 w8 hd8
      have ok9 := restore_ok OK8.out
      obtain ⟨s9, hs9⟩ : ∃ s9, restoreD s8 = s9 := ⟨_, rfl⟩
      rw [hs9] at q9 ok9
      have OK9 := Lib.hid ok9
      clear q8 hd8 hm8 HB7 HL7 hs9 ok9 OK8
      go_wp2_with fail
      refine q9.mono ?_
      rintro e w9 ⟨rfl, hd9, hm9⟩
      have HB9 := Lib.hid (Dk.there1 hc HB8.out hm9)
      have HL9 := Lib.hid (HL8.out.aside hm9 (fun k hk => by have := hap7 k hk; simp; omega))
      have q10 := commit_at g c b T7 ⟨#[119]⟩ (logOf G1 true) s9 s2 14 _ _ (commit_broken _ _ _ _ rfl) OK9.out m2 M2.out A2 c2 w9 HL9.out hd9 w.heap.size (R2.out.below HB9.out) HB9.out.size (fun h0 ad e => by
        obtain ⟨ad', e', hlt, _⟩ := R2.out.2 h0
        rw [e] at e'; injection e' with e'; subst e'
        exact ⟨fun hm => by have := HT7.out _ hm; omega, by omega, by omega⟩) (by decide) (by omega) (by omega) hrl (by show G1.length ≤ _; omega) (by show (fileOf G1).size ≤ _; omega)
      clear q9 hd9 hm9 HB8 HL8 hap7 OK9
      go_wp2_with fail
      refine q10.mono ?_
      rintro e w10 ⟨T10, rfl, hl10, hd10, hm10⟩
      obtain ⟨hB10, hT10⟩ := Mv.here HB9.out hm10 hc hb HT7.out
      have HB10 := Lib.hid hB10; have HL10 := Lib.hid hl10
      clear q10 hl10 hd10 hm10 hB10 hT10 HB9 HL9 HT7
      go_wp2_with fail
      refine (alive6_any _).mono ?_
      rintro e w11 ⟨rfl, hb11⟩
      have HB11 := Lib.hid (HB10.out.trans (hb11.mono HB10.out.size))
      have HL11 := Lib.hid (HL10.out.below hb11)
      have q12 := records_any g c T10 _ _ w11 HL11.out (by show G1.flatten.length ≤ _; rw [HFL.out, M1.out]; omega)
      have hrecs : (logOf G1 true).recs = s1 := HFL.out
      rw [hrecs, M1.out] at q12
      clear hb11 HB10 HL10 hrecs
      go_wp2_with fail
      refine q12.mono ?_
      rintro e w12 ⟨v, rfl, hown, hb12⟩
      have HB12 := Lib.hid (HB11.out.trans (hb12.mono HB11.out.size))
      obtain ⟨A3, c3, rfl, _⟩ := own_form hown
      have q13 := same_any s1 s1 A3 A1 c3 c1 w12.heap.size w12 (by rw [M1.out]; exact Reads.of_own hown) (by rw [M1.out]; exact (R1.out.below HB12.out).more HB12.out.size) (by rw [M1.out]; omega) (by rw [M1.out]; omega)
      rw [M1.out, sameB_self] at q13
      clear q12 hown hb12 HB11 HL11
      go_wp2_with fail
      refine q13.mono ?_
      rintro e w13 ⟨rfl, q, rfl⟩
      go_wp2
      go_ret
      exact ⟨rfl, drewN_below HB12.out q⟩
end Go.Proofs.YtfmbadinfhpihaaGreat
