/-
  SnapWhole: wherever the power fails, in a Save too: opened anew there is the picture that was saved last with the groups behind it, or the one under way.
  Conditions: steps, numbers.
-/
import Derived.Test.YtjhinifmdjlblaaGreatZLight
import Derived.Test.YtjhinifmdjlblaaGreatSnWD
import Derived.Test.YtjhinifmdjlblaaGreatSn10
import Derived.Deep.CutBlock
import Derived.Deep.DeepCutAuto
namespace Go.Proofs.YtjhinifmdjlblaaGreat
open Go.RowKit Go.Maps
set_option maxRecDepth 100000
attribute [local go_sem ↓] Go.wp_at_zero Go.wp_at_succ

theorem fuse_ok7 {st : Dk} (h : st.Ok) {n : Int} (h0 : -9223372036854775808 ≤ n) (h1 : n ≤ 9223372036854775807) : (fuseD st n).Ok := ⟨h.good, h.ops0, h.ops1, h0, h1, h.few, h.tot⟩
theorem own_weaken {w : World} {B B' : Nat} {v : Value} {n : Nat} {xs : List Value} (h : w.ownsRow B 9 1 v n xs) (hB : B' ≤ B) : w.ownsRow B' 9 1 v n xs := by
  refine ⟨h.1, ?_⟩
  rcases h.2 with h | ⟨g, cap, cur, h1, h2, h3⟩
  · exact .inl h
  · exact .inr ⟨g, cap, cur, h1, Nat.le_trans hB h2, h3⟩
theorem strs_one (ss : List ByteArray) : ∀ u ∈ strs ss, u.oneCell' = true := by
  intro u hu
  simp only [strs, List.mem_map] at hu
  obtain ⟨s, _, rfl⟩ := hu
  rfl
/-- A row apart from what a call turns. -/
theorem row_by {T T' : List Nat} {w w' : World} {B : Nat} {v : Value} {n : Nat} {xs : List Value} (ho : w.ownsRow B 9 1 v n xs) (hm : Mv T T' w w') (ha : ∀ q, v.ownBlock = some q → q ∉ T) : w'.ownsRow B 9 1 v n xs ∧ ∀ q, v.ownBlock = some q → q ∉ T' :=
  ⟨Wi.ownsRow_keep ho (fun q hq => hm.block q (ho.lt q hq).2 (ha q hq)), fun q hq e => (hm.link q e).elim (ha q hq) (fun h => by have := (ho.lt q hq).2; omega)⟩
theorem wts_le {l : List ZOp} {k : Nat} : wts (l.take k) ≤ wts l := by
  unfold wts
  conv => rhs; rw [← List.take_append_drop k l]
  rw [List.map_append, List.sum_append]
  omega
theorem baseOf_found {n : Nat} {base : ByteArray} {G : List (List ByteArray)} (h : Found n base G) : baseOf n base = base := by
  unfold baseOf
  split
  · rename_i h0
    exact (h.zero h0).symm
  · rfl
theorem light6_none (w : World) : Calls Tryz.prog 22 #[.slice none 0 0] w fun e w' => e = .returned (.bool true) ∧ w = w' := by
  go_enter Tryz.func22, Tryz.ntmps22
  go_wp2
  go_loopw [3, 4] (fun r i wr => r = .int .i64 9000 ∧ i = .int .i64 0 ∧ w = wr) (fun _ _ _ => 0)
  case atStart => exact ⟨rfl, rfl, rfl⟩
  case round =>
    obtain ⟨rfl, rfl, rfl⟩ := hrel
    go_wp2
    go_ret
    exact ⟨rfl, rfl⟩
/-- A commit of what lies in a slice, as it comes out. -/
theorem scommit_at (a g c b : Nat) (T : List Nat) (dir : ByteArray) (sn : Sn) (st : Dk) (hok : st.Ok) (hd20 : dir.size ≤ 20) (hn : sn.n ≤ 1000000000000) (ss : List ByteArray) (x : Int) (lg' : Lg) (st' : Dk) (hbr : sn.br = false) (hr : commitR (lgB dir sn.n) sn.lg st ss = (x, lg', st')) (n : Nat) (hss : ss.length = n) (A : Option Addr) (cp : Nat) (w : World) (h : StoreAt a g c T dir sn w) (hd : DkAt c b st w)
    (B : Nat) (hrd : Reads w B 1 A n (strs ss)) (hB : B ≤ w.heap.size) (hA : 0 < n → ∀ ad, A = some ad → ad.block ∉ T ∧ ad.block ≠ c ∧ ad.block ≠ b) (htot : total ss ≤ 50000000) (hL : n ≤ 1000000) (hrl : sn.lg.recs.length ≤ 1000000) (hgl : sn.lg.groups ≤ 1000000000) (hzl : sn.lg.size ≤ 1000000000) :
    Calls Tryz.prog 11 #[.pointer (some ⟨a, 0, none⟩), .slice A n cp] w fun e w' => ∃ T', e = .returned (.int .i64 x) ∧ StoreAt a g c T' dir ⟨sn.n, sn.base, false, lg'⟩ w' ∧ DkAt c b st' w' ∧ Mv (a :: c :: b :: T) (a :: c :: b :: T') w w' := by
  refine (scommit_any a g c b T dir sn st hok hd20 hn ss n hss A cp w h hd B hrd hB hA htot hL hrl hgl hzl).mono ?_
  rintro e w' ⟨T', rfl, k1, k2, k3⟩
  unfold commitS at k1 k2 ⊢
  rw [hbr, if_neg (by decide)] at k1 k2 ⊢
  rw [hr] at k1 k2 ⊢
  simp only at k1 k2 ⊢
  exact ⟨T', by first | rfl | trivial, k1, k2, k3⟩
/-- What holds at the loop's head. -/
structure WInv (w : World) (a c b : Nat) (l : List ZOp) (k n : Nat) (base : ByteArray) (G : List (List ByteArray)) (g : Nat) (T : List Nat) (st : Dk) (fs : DataW Unit) (wr : World) : Prop where
  store : StoreAt a g c T dirW ⟨n, base, false, logOf G false⟩ wr
  dk : DkAt c b st wr
  pw : Pow true st fs
  files : Files fs (qm dirW n base G)
  lowT : ∀ q, q ∈ T → w.heap.size ≤ q
  bel : Below w.heap.size w wr
  found : Found n base G
  nk : n ≤ k
  gk : G.length ≤ k
  bsz : base.size ≤ 9000
  rcs : total G.flatten + G.flatten.length ≤ wts (l.take k)
  fsz : (fileOf G).size ≤ 9 * wts (l.take k) + 19 * k
theorem names_dirW (n : Nat) (h : n < 1000000000000) : Names dirW n := ⟨by decide, by decide, h⟩
theorem found_zero : Found 0 ⟨#[]⟩ [] := ⟨names_dirW 0 (by decide), by decide, fun _ => rfl, by simp, by decide, by decide⟩
theorem long_wt {ss : List ByteArray} (h : total ss ≤ 9000) : longB ss = false := by
  unfold longB
  rw [List.any_eq_false]
  intro s hs
  have := size_le_total hs
  simp; omega
set_option maxHeartbeats 40000000 in
theorem swhole_walk (l : List ZOp) (A0 : Option Addr) (c0 : Nat) (fz : Int) (keep : List Int) (A2 : Option Addr) (c2 : Nat) (w : World) (hr0 : ZOpsAt w w.heap.size A0 l) (hl0 : l.length ≤ 9223372036854775807) (hf0 : ∀ x ∈ l, x.Fits) (hz0' : -9223372036854775808 ≤ fz) (hz1' : fz ≤ 9223372036854775807)
    (hr2 : Reads w w.heap.size 1 A2 keep.length (ints keep)) (hl2 : keep.length ≤ 9223372036854775807) (hs2 : ∀ v ∈ keep, -9223372036854775808 ≤ v ∧ v ≤ 9223372036854775807) :
    Calls Tryz.prog 5 #[.slice A0 l.length c0, .int .i64 fz, .slice A2 keep.length c2] w fun e w' => e = .returned (.bool true) ∧ Below w.heap.size w w' := by
  obtain ⟨i0, hinf, hz0, hz1, hz2⟩ := info_parts info_string
  have qL := light7_any l A0 c0 w hr0 hl0 hf0
  obtain ⟨n, hn⟩ : ∃ m, l.length = m := ⟨_, rfl⟩
  rw [hn] at hl0 qL ⊢
  have R0 := Lib.hid hr0; have R2 := Lib.hid hr2; have N0 := Lib.hid hn; have S2 := Lib.hid hs2; have FT := Lib.hid hf0
  clear hr0 hr2 hn hs2 hf0
  go_enter Tryz.func5, Tryz.ntmps5
  go_wp2_with fail
  refine qL.mono ?_
  rintro e w1 ⟨⟨bl, rfl, hbl⟩, hb1⟩
  have HB1 := Lib.hid hb1
  clear hb1 qL
  cases bl
  · go_wp2_with fail
    refine (alive7_any _).mono ?_
    rintro e w2 ⟨rfl, hb2⟩
    have HB2 := Lib.hid (HB1.out.trans (hb2.mono HB1.out.size))
    clear hb2
    go_wp2
    go_ret
    exact ⟨rfl, HB2.out⟩
  · have hb := hbl rfl
    have hlen : n ≤ 40 := by rw [← N0.out]; exact hb.1
    have hwts : wts l ≤ 9000 := hb.2
    clear hbl hb
    by_cases g2 : fz < 0
    · go_wp2_with fail
      refine (alive7_any _).mono ?_
      rintro e w2 ⟨rfl, hb2⟩
      have HB2 := Lib.hid (HB1.out.trans (hb2.mono HB1.out.size))
      clear hb2
      go_wp2
      go_ret
      exact ⟨rfl, HB2.out⟩
    · go_wp2_with fail
      refine (new_any _).mono ?_
      rintro e w3 ⟨c, b, rfl, h3, hc', hb0', hbel3⟩
      have hz1w := HB1.out.size
      have hc : w.heap.size ≤ c := by omega
      have hb0 : w.heap.size ≤ b := by omega
      have HB3 := Lib.hid (HB1.out.trans (hbel3.mono hz1w))
      have q : Calls Tryz.prog 6 #[.pointer (some ⟨c, 0, none⟩), .string ⟨#[119]⟩] w3 (OpenQ c b dirW 0 ⟨#[]⟩ [] w3) := openQ c b dirW 0 ⟨#[]⟩ [] (names_dirW 0 (by decide)) newDk (.map []) _ on1_new files_none (opn_new _) (Nat.zero_le _) w3 h3
      clear hbel3 h3 hc' hb0' HB1
      go_wp2_with fail
      refine q.mono ?_
      rintro e w4 ⟨a, g4, T4, s4, fs4, rfl, hs4, hd4, ho4, hF4, ha4, hT4, hm4⟩
      have HB4 := Lib.hid (open_here HB3.out hm4 hc hb0)
      have HT4 : Hid (∀ k, k ∈ T4 → w.heap.size ≤ k) := fun k hk => Nat.le_trans HB3.out.size (hT4 k hk)
      have ha : w.heap.size ≤ a := Nat.le_trans HB3.out.size ha4
      have hap4 := hs4.2.1.apart hd4
      have han := hs4.1.ne_disk hd4
      have HS4 := Lib.hid hs4
      have qf := fuse_any c b s4 fz w4 hd4
      have hpw : Pow true (fuseD s4 fz) fs4 := ⟨fuse_ok7 ho4.ok (by omega) (by omega), ho4.on, (fun e => by cases e), ho4.fs_⟩
      obtain ⟨s5, hs5⟩ : ∃ s, fuseD s4 fz = s := ⟨_, rfl⟩
      rw [hs5] at qf hpw
      have HP5 := Lib.hid hpw; have HF4 := Lib.hid hF4
      clear q hs4 hd4 ho4 hF4 hT4 hm4 ha4 HB3 hs5 hpw
      go_wp2_with fail
      refine qf.mono ?_
      rintro e w5 ⟨rfl, hd5, hm5⟩
      have hI5 : WInv w a c b l 0 0 ⟨#[]⟩ [] g4 T4 s5 fs4 w5 := ⟨HS4.out.aside hm5 (by simp; omega) (fun k hk => by have := hap4 k hk; simp; omega), hd5, HP5.out, HF4.out, HT4.out, Dk.there1 hc HB4.out hm5, found_zero, Nat.le_refl _, Nat.le_refl _, by decide, (by show (0 : Nat) ≤ _; omega), (by show (0 : Nat) ≤ _; omega)⟩
      have HI5 := Lib.hid hI5
      clear qf hd5 hm5 HB4 HS4 hap4 HP5 HF4 HT4 hI5
      go_upto_block 0 with (fail)
      go_cut [10, 11, 12, 13, 14, 15] (fun b0 s0 r0 b1 s1 r1 wx => ∃ (B0v : ByteArray) (S0v : Bool) (R0v : List ByteArray) (B1v : ByteArray) (S1v : Bool) (R1v : List ByteArray) (gl pl : Nat) (A8 : Option Addr) (c8 : Nat) (A9 : Option Addr) (c9 : Nat) (st' : Dk), b0 = .string B0v ∧ s0 = .bool S0v ∧ r0 = .slice A8 gl c8 ∧ b1 = .string B1v ∧ s1 = .bool S1v ∧ r1 = .slice A9 pl c9 ∧ gl ≤ 1000000 ∧ pl ≤ 1000000 ∧ Hid (DkAt c b st' wx) ∧ Hid (LeftS B0v S0v R0v B1v S1v R1v st') ∧ Hid (Below w.heap.size w wx) ∧ Hid (wx.ownsRow w.heap.size 9 1 (.slice A8 gl c8) gl (strs R0v)) ∧ Hid (∀ q, (Value.slice A8 gl c8).ownBlock = some q → q ∉ [c, b]) ∧ Hid (wx.ownsRow w.heap.size 9 1 (.slice A9 pl c9) pl (strs R1v)) ∧ Hid (∀ q, (Value.slice A9 pl c9).ownBlock = some q → q ∉ [c, b]) ∧ Hid (R0v.length = gl) ∧ Hid (R1v.length = pl))
      case first =>
        go_wp2
        go_loopw [10, 11, 12, 13, 14, 15, 16] (fun b0 s0 r0 b1 s1 r1 i wr => ∃ (k n0 gl0 : Nat) (sv0 : Bool) (base : ByteArray) (G : List (List ByteArray)) (g : Nat) (T : List Nat) (st : Dk) (fs : DataW Unit), k ≤ n ∧ i = .int .i64 k ∧ b0 = .string base ∧ s0 = .bool sv0 ∧ b1 = b0 ∧ s1 = s0 ∧ r1 = r0 ∧ gl0 ≤ 9000 ∧ Hid (WInv w a c b l k n0 base G g T st fs wr) ∧ Hid (wr.ownsRow w.heap.size 9 1 r0 gl0 (strs G.flatten)) ∧ Hid (∀ q, r0.ownBlock = some q → q ∉ a :: c :: b :: T) ∧ Hid (decide (n0 ≠ 0) = sv0) ∧ Hid (G.flatten.length = gl0)) (fun _ _ _ _ _ _ i _ => n - (intOf i).toNat)
        case atStart => exact ⟨0, 0, 0, false, ⟨#[]⟩, [], g4, T4, s5, fs4, Nat.zero_le _, rfl, rfl, rfl, rfl, rfl, rfl, by omega, HI5.out, World.ownsRow_nil _ _ _ _, (fun q hq => by simp [Value.ownBlock] at hq), rfl, rfl⟩
        case round =>
          obtain ⟨k, n0, gl0, sv0, base, G, g, T, st, fs, hk, rfl, rfl, rfl, rfl, rfl, rfl, hgl0, HI, HSU, HAS, HSV0, HGL0⟩ := hrel
          by_cases hlt : k < n
          · have hon := on_any c b st wr HI.out.dk
            rw [HI.out.pw.on] at hon
            obtain ⟨ad, y, rfl, hab, hyk, hcell, hin⟩ := (R0.out.below HI.out.bel).at_ (show k < l.length by rw [N0.out]; exact hlt)
            have hfy := FT.out y (List.mem_of_getElem? hyk)
            have hwk := wts_snoc hyk
            have hwl : wts (l.take (k + 1)) ≤ wts l := wts_le
            unfold ZOp.wt at hwk
            have x0 : wr.cell? (ad.add (k * 5)) = some (.int .i64 y.kind) := by
              have h := hcell 0 _ rfl
              rw [add_of_add] at h
              exact h
            have x2 : wr.cell? ⟨(ad.add (k * 5)).block, (ad.add (k * 5)).off + 2, none⟩ = some (.string y.s) := hcell 2 _ rfl
            have x3 : wr.cell? ⟨(ad.add (k * 5)).block, (ad.add (k * 5)).off + 3, none⟩ = some (.slice y.ta y.tt.length y.tc) := hcell 3 _ rfl
            have hz0w := HI.out.bel.size
            have hadb : (ad.add (k * 5)).block < w.heap.size := by rw [block_of_add]; exact hab
            have HIN := Lib.hid hin
            have HFY := Lib.hid hfy
            have HWK := Lib.hid hwk
            clear hcell hin hfy hyk hwk
            have hbz := HI.out.bsz
            have hfz := HI.out.fsz
            have hgk := HI.out.gk
            have hnk := HI.out.nk
            have hwl0 : wts (l.take k) ≤ 9000 := Nat.le_trans wts_le hwts
            have hrec := HI.out.rcs
            have hbs := HI.out.found.bs
            have htot : Tot6 st := by unfold Tot6; rw [HI.out.pw.fs_]; exact tot_quiet HI.out.files hbs HI.out.found.fsz
            by_cases h2 : y.kind = 2
            · have hk2 : (y.kind == 2) = true := by simp [h2]
              have hys : y.s.size ≤ 9000 := by have := HWK.out; omega
              have hnx := next_law (state := y.s) (names_dirW (n0 + 1) (by omega)) HI.out.pw HI.out.files hbs (by omega) (by omega)
              have qs := save_any a g c b T dirW ⟨n0, base, false, logOf G false⟩ st HI.out.pw.ok htot (by decide) (by show n0 ≤ _; omega) y.s (by omega) wr HI.out.store HI.out.dk
              rcases hnx with ⟨s2, fs2, e2, ho2, hF2⟩ | ⟨_, s2, fs2, e2, hd2, hcr⟩
              · rw [saveS_ok (by omega) e2, lg_none] at qs
                have QS := Lib.hid qs; have HO2 := Lib.hid ho2; have HF2 := Lib.hid hF2
                clear qs e2 ho2 hF2 h2
                go_wp2_with fail
                refine hon.mono ?_
                rintro e w4 ⟨rfl, rfl⟩
                go_wp2_with fail
                refine QS.out.mono ?_
                rintro e w8 ⟨g8, T8, rfl, hs8, hd8, hm8⟩
                obtain ⟨hB8, hT8⟩ := Mv.hereS HI.out.bel hm8 ha hc hb0 HI.out.lowT
                have HI8 : Hid (WInv w a c b l (k + 1) (n0 + 1) y.s [] g8 T8 s2 fs2 w8) := by
                  refine ⟨hs8, hd8, HO2.out, HF2.out, hT8, hB8, ⟨names_dirW _ (by omega), by omega, (fun e => by omega), by simp, by simp, by decide⟩, by omega, by simp, hys, ?_, ?_⟩
                  · show (0 : Nat) ≤ _; omega
                  · show (0 : Nat) ≤ _; omega
                clear QS HO2 HF2 hs8 hd8 hm8 hB8 hT8 HI
                go_wp2
                go_roundw
                case rel => exact ⟨k + 1, n0 + 1, 0, true, y.s, [], g8, T8, s2, fs2, hlt, by go_num, rfl, rfl, rfl, rfl, rfl, by omega, HI8.out, World.ownsRow_nil _ _ _ _, (fun q hq => by simp [Value.ownBlock] at hq), by show _ = _; simp, rfl⟩
                case measure => simp [intOf]; omega
              · rw [saveS_no (by omega) e2] at qs
                have hleft : LeftS base (decide (n0 ≠ 0)) G.flatten y.s true [] s2 := left_save hd2.ok (by have := nextD_tot (dir := dirW) (n := n0) (state := y.s) HI.out.pw.ok htot; rw [e2] at this; exact this) hd2.fs_ hcr HI.out.found (names_dirW _ (by omega)) (by omega)
                rw [HSV0.out] at hleft
                have QS := Lib.hid qs; have HLF := Lib.hid hleft
                clear qs e2 hd2 hcr hleft h2
                obtain ⟨A8, c8, rfl, _⟩ := own_form HSU.out
                go_wp2_with fail
                refine hon.mono ?_
                rintro e w4 ⟨rfl, rfl⟩
                go_wp2_with fail
                refine QS.out.mono ?_
                rintro e w8 ⟨g8, T8, rfl, hs8, hd8, hm8⟩
                obtain ⟨hB8, hT8⟩ := Mv.hereS HI.out.bel hm8 ha hc hb0 HI.out.lowT
                obtain ⟨hsu8, has8⟩ := row_by HSU.out hm8 HAS.out
                have HD8 := Lib.hid hd8; have HB8 := Lib.hid hB8; have HSU8 := Lib.hid hsu8
                have HAS8 : Hid (∀ q, (Value.slice A8 gl0 c8).ownBlock = some q → q ∉ [c, b]) := fun q hq e => has8 q hq (by simp at e ⊢; omega)
                clear QS hs8 hd8 hm8 hB8 hT8 HI hsu8 has8 HSU HAS
                go_wp2
                go_meet
                exact ⟨base, sv0, G.flatten, y.s, true, [], gl0, 0, A8, c8, none, 0, s2, rfl, rfl, rfl, rfl, rfl, rfl, by omega, by omega, HD8.out, HLF.out, HB8.out, HSU8.out, HAS8.out, World.ownsRow_nil _ _ _ _, (fun q hq => by simp [Value.ownBlock] at hq), HGL0.out, rfl⟩
            · have hk2 : (y.kind == 2) = false := by simp [h2]
              clear h2
              obtain ⟨m, hm⟩ : ∃ m, y.tt.length = m := ⟨_, rfl⟩
              have hrt := HIN.out.rt
              have hmw : m ≤ 9000 := by have := HWK.out; omega
              have htw : total y.tt ≤ 9000 := by have := HWK.out; omega
              have hglm : gl0 + m ≤ 9000 := by have h9 := HWK.out; have h8 := HGL0.out; omega
              rw [hm] at x3 hrt
              have HMM := Lib.hid hm
              have HRT := Lib.hid hrt
              have hdis : (∃ G1 s1 fs1, commitR (lgB dirW n0) (logOf G false) st y.tt = (0, logOf G1 false, s1) ∧ Pow true s1 fs1 ∧ Files fs1 (qm dirW n0 base G1) ∧ G1.flatten = G.flatten ++ y.tt ∧ Found n0 base G1 ∧ G1.length ≤ k + 1 ∧ (fileOf G1).size ≤ 9 * wts (l.take (k + 1)) + 19 * (k + 1)) ∨ (∃ s1, commitR (lgB dirW n0) (logOf G false) st y.tt = (14, logOf G true, s1) ∧ LeftS base (decide (n0 ≠ 0)) G.flatten base (decide (n0 ≠ 0)) (G.flatten ++ y.tt) s1) := by
                have hwk := HWK.out
                have hfit : FitG y.tt := ⟨HFY.out.lt, long_wt htw⟩
                by_cases hm0 : y.tt.length = 0
                · have e0 : y.tt = [] := List.eq_nil_of_length_eq_zero hm0
                  refine .inl ⟨G, st, fs, by rw [e0]; exact commit_empty _ _ _, HI.out.pw, HI.out.files, by rw [e0, List.append_nil], HI.out.found, by omega, by omega⟩
                · have hgl9 := group_len y.tt
                  rcases commit_law HI.out.pw HI.out.files hbs hfit.2 hm0 (by omega) with ⟨s1, fs1, e1, h1, hF1⟩ | ⟨_, s1, fs1, e1, h1, hF1⟩
                  · refine .inl ⟨G ++ [y.tt], s1, fs1, e1, h1, hF1, by simp, ⟨HI.out.found.nm, hbs, HI.out.found.zero, fun s hs => ?_, ?_, ?_⟩, ?_, ?_⟩
                    · rcases List.mem_append.1 hs with h | h
                      · exact HI.out.found.fit s h
                      · obtain rfl : s = y.tt := by simpa using h
                        exact hfit
                    · have h8 := HGL0.out
                      have e9 : (G ++ [y.tt]).flatten.length = G.flatten.length + y.tt.length := by simp
                      omega
                    · rw [fileOf_snoc, size_app']; omega
                    · simp; omega
                    · rw [fileOf_snoc, size_app']; omega
                  · exact .inr ⟨s1, e1, left_commit h1.ok (by have := commitR_tot (nm := lgB dirW n0) (lg := logOf G false) (ss := y.tt) HI.out.pw.ok htot; rw [e1] at this; exact this) h1.fs_ hF1 HI.out.found hfit (by omega) (by have h8 := HGL0.out; omega)⟩
              have HDIS := Lib.hid hdis
              obtain ⟨A8, c8, rfl, _⟩ := own_form HSU.out
              have hrsu := Reads.of_own HSU.out
              have HX3 := Lib.hid x3
              clear hm hrt hdis
              go_wp2_with fail
              refine hon.mono ?_
              rintro e w4 ⟨rfl, rfl⟩
              go_wp2
              go_region_law ((first
                | (refine step_append_any _ rfl (.tmp 90) (.tmp 95) 22 rfl wr.heap.size 9 i0 (.string ⟨#[]⟩) 1 16 Tryz.underlying22 hinf hz0 hz1 hz2 rfl (by decide) (.slice A6 gl0 c6) gl0 (strs G.flatten) (by rfl) hown6 w.heap.size y.ta m y.tc (strs y.tt) (by rfl) hrd6 (strs_one _) (by unfold maxLen; omega) (by omega) hz6 ?_; intro v7 w7 hown7 hgrow7 hlink7; obtain ⟨A7, c7, rfl, _⟩ := own_form hown7)
                | (refine step_append_any _ rfl (.const (.slice none 0 0)) (.tmp 89) 22 rfl wr.heap.size 9 i0 (.string ⟨#[]⟩) 1 16 Tryz.underlying22 hinf hz0 hz1 hz2 rfl (by decide) (.slice none 0 0) 0 [] (by rfl) (World.ownsRow_nil _ _ _ _) wr.heap.size A8 gl0 c8 (strs G.flatten) (by rfl) hrsu (strs_one _) (by unfold maxLen; omega) (by omega) (Nat.le_refl _) ?_; intro v6 w6 hown6' hgrow6 hlink6; have hown6 : w6.ownsRow wr.heap.size 9 1 v6 gl0 (strs G.flatten) := (by simpa using hown6'); obtain ⟨A6, c6, rfl, _⟩ := own_form hown6; have hb56 : Below wr.heap.size wr w6 := ⟨hgrow6.os, hgrow6.tape, hgrow6.output, hgrow6.size, fun q hq => hgrow6.block q hq (by simp [Value.ownBlock])⟩; have hcell6 : w6.cell? ⟨(ad.add (k * 5)).block, (ad.add (k * 5)).off + 3, none⟩ = some (.slice y.ta m y.tc) := (hb56.cell (p := ⟨(ad.add (k * 5)).block, (ad.add (k * 5)).off + 3, none⟩) (show (ad.add (k * 5)).block < _ by omega)).trans HX3.out; have hrd6 : Reads w6 w.heap.size 1 y.ta m (strs y.tt) := HRT.out.below (hb56.mono hz0w); have hz6 : wr.heap.size ≤ w6.heap.size := hb56.size; clear hown6' hgrow6 hlink6)))
              all_goals
                have hb57 : Below wr.heap.size wr w7 := hb56.trans ⟨hgrow7.os, hgrow7.tape, hgrow7.output, hgrow7.size, fun q hq => hgrow7.block q (by omega) (fun e => by have := (hown6.lt q e.symm).1; omega)⟩
                have hB7 := HI.out.bel.trans (hb57.mono hz0w)
                have hst7 := HI.out.store.below hb57
                have hd7 : DkAt c b st w7 := HI.out.dk.below hb57 HI.out.dk.lt HI.out.dk.ltb
                have hsu7 := Wi.ownsRow_keep HSU.out (fun q hq => hb57.block q (HSU.out.lt q hq).2)
                have hcell7 : w7.cell? ⟨(ad.add (k * 5)).block, (ad.add (k * 5)).off + 3, none⟩ = some (.slice y.ta m y.tc) := (hb57.cell (p := ⟨(ad.add (k * 5)).block, (ad.add (k * 5)).off + 3, none⟩) (show (ad.add (k * 5)).block < _ by omega)).trans HX3.out
                have hrt7 : Reads w7 w.heap.size 1 y.ta m (strs y.tt) := HRT.out.below (hb57.mono hz0w)
                have hlow7 : ∀ q, (Value.slice A7 (gl0 + m) c7).ownBlock = some q → q ∉ a :: c :: b :: T := fun q hq hmem => by
                  have h1 := (hown7.lt q hq).1
                  simp only [List.mem_cons] at hmem
                  rcases hmem with h | h | h | h
                  · have := HI.out.store.1.lt; omega
                  · have := HI.out.dk.lt; omega
                  · have := HI.out.dk.ltb; omega
                  · have := HI.out.store.2.1.there q h; omega
                have hsp7 : w7.ownsRow w.heap.size 9 1 (.slice A7 (gl0 + m) c7) (gl0 + m) (strs (G.flatten ++ y.tt)) := by
                  rw [strs_append]
                  exact own_weaken hown7 hz0w
                have qc := fun (x : Int) (lg' : Lg) (s1 : Dk) (e1 : commitR (lgB dirW n0) (logOf G false) st y.tt = (x, lg', s1)) => Lib.hid (scommit_at a g c b T dirW ⟨n0, base, false, logOf G false⟩ st HI.out.pw.ok (by decide) (by show n0 ≤ _; omega) y.tt x lg' s1 rfl e1 m HMM.out y.ta y.tc w7 hst7 hd7 w.heap.size hrt7 hB7.size (fun h0 ad e => by
                  obtain ⟨ad', e', hlt', _⟩ := hrt7.2 h0
                  rw [e] at e'; injection e' with e'; subst e'
                  exact ⟨fun hm => by have := HI.out.lowT _ hm; omega, by omega, by omega⟩) (by omega) (by omega) (by show G.flatten.length ≤ _; have := HGL0.out; omega) (by show G.length ≤ _; omega) (by show (fileOf G).size ≤ _; omega))
                have HSU7 := Lib.hid hsu7; have HSP7 := Lib.hid hsp7; have HLO7 := Lib.hid hlow7; have HB7 := Lib.hid hB7
                clear hown7 hgrow7 hlink7 hb57 hown6 hb56 hcell6 hrd6 hz6 hst7 hd7 hsu7 hlow7 hsp7 hrt7 hB7 hrsu HX3 HRT HSU
                rcases HDIS.out with ⟨G1, s1, fs1, e1, hp1, hF1, hfl, hfd, hg1, hf1⟩ | ⟨s1, e1, hlf⟩
                · have q8 := qc _ _ _ e1
                  have HP1 := Lib.hid hp1; have HF1 := Lib.hid hF1; have HFL := Lib.hid hfl; have HFD1 := Lib.hid hfd; have HG1 := Lib.hid hg1; have HZ1 := Lib.hid hf1
                  clear qc e1 hp1 hF1 hfl hfd hg1 hf1 HDIS
                  go_wp2_with fail
                  refine q8.out.mono ?_
                  rintro e w8 ⟨T8, rfl, hs8, hd8, hm8⟩
                  obtain ⟨hB8, hT8⟩ := Mv.hereS HB7.out hm8 ha hc hb0 HI.out.lowT
                  obtain ⟨hsp8, hap8⟩ := row_by HSP7.out hm8 HLO7.out
                  rw [← HFL.out] at hsp8
                  have HLEN : Hid (G1.flatten.length = gl0 + m) := by show _ = _; rw [HFL.out, List.length_append, HGL0.out, HMM.out]
                  have HSP8 := Lib.hid hsp8; have HAP8 := Lib.hid hap8
                  have HI8 : Hid (WInv w a c b l (k + 1) n0 base G1 g T8 s1 fs1 w8) := by
                    refine ⟨hs8, hd8, HP1.out, HF1.out, hT8, hB8, HFD1.out, by omega, HG1.out, by omega, ?_, HZ1.out⟩
                    have h9 := HWK.out
                    rw [HFL.out, total_append, List.length_append]
                    omega
                  clear q8 hs8 hd8 hm8 hB8 hT8 hsp8 hap8 HB7 HSU7 HSP7 HLO7 HI hcell7 HFD1 HG1 HZ1 HP1 HF1 HFL
                  go_wp2
                  go_roundw
                  case rel => exact ⟨k + 1, n0, gl0 + m, sv0, base, G1, g, T8, s1, fs1, hlt, by go_num, rfl, rfl, rfl, rfl, rfl, hglm, HI8.out, HSP8.out, HAP8.out, HSV0.out, HLEN.out⟩
                  case measure => simp [intOf]; omega
                · have q8 := qc _ _ _ e1
                  rw [HSV0.out] at hlf
                  have HLF := Lib.hid hlf
                  clear qc e1 hlf HDIS
                  go_wp2_with fail
                  refine q8.out.mono ?_
                  rintro e w8 ⟨T8, rfl, hs8, hd8, hm8⟩
                  obtain ⟨hB8, _⟩ := Mv.hereS HB7.out hm8 ha hc hb0 HI.out.lowT
                  obtain ⟨hsp8, hap8⟩ := row_by HSP7.out hm8 HLO7.out
                  obtain ⟨hsu8, has8⟩ := row_by HSU7.out hm8 HAS.out
                  have HLEN : Hid ((G.flatten ++ y.tt).length = gl0 + m) := by show _ = _; rw [List.length_append, HGL0.out, HMM.out]
                  have HD8 := Lib.hid hd8; have HB8 := Lib.hid hB8; have HSU8 := Lib.hid hsu8; have HSP8 := Lib.hid hsp8
                  have HAS8 : Hid (∀ q, (Value.slice A8 gl0 c8).ownBlock = some q → q ∉ [c, b]) := fun q hq e => has8 q hq (by simp at e ⊢; omega)
                  have HAP8 : Hid (∀ q, (Value.slice A7 (gl0 + m) c7).ownBlock = some q → q ∉ [c, b]) := fun q hq e => hap8 q hq (by simp at e ⊢; omega)
                  clear q8 hs8 hd8 hm8 hB8 hsp8 hap8 hsu8 has8 HB7 HSU7 HSP7 HLO7 HI hcell7 HAS
                  go_wp2
                  go_meet
                  exact ⟨base, sv0, G.flatten, base, sv0, G.flatten ++ y.tt, gl0, gl0 + m, A8, c8, A7, c7, s1, rfl, rfl, rfl, rfl, rfl, rfl, by omega, by omega, HD8.out, HLF.out, HB8.out, HSU8.out, HAS8.out, HSP8.out, HAP8.out, HGL0.out, HLEN.out⟩

          · obtain rfl : k = n := by omega
            have hbs := HI.out.found.bs
            have htot : Tot6 st := by unfold Tot6; rw [HI.out.pw.fs_]; exact tot_quiet HI.out.files hbs HI.out.found.fsz
            have hleft := left_quiet HI.out.pw.ok htot HI.out.pw.fs_ HI.out.files HI.out.found base sv0 G.flatten
            rw [HSV0.out] at hleft
            have HLF := Lib.hid hleft
            clear hleft
            have HD8 := Lib.hid HI.out.dk; have HB8 := Lib.hid HI.out.bel
            obtain ⟨A8, c8, rfl, _⟩ := own_form HSU.out
            have HAS8 : Hid (∀ q, (Value.slice A8 gl0 c8).ownBlock = some q → q ∉ [c, b]) := fun q hq e => HAS.out q hq (by simp at e ⊢; omega)
            clear HI htot hbs HAS
            go_wp2
            go_meet
            exact ⟨base, sv0, G.flatten, base, sv0, G.flatten, gl0, gl0, A8, c8, A8, c8, st, rfl, rfl, rfl, rfl, rfl, rfl, by omega, by omega, HD8.out, HLF.out, HB8.out, HSU.out, HAS8.out, HSU.out, HAS8.out, HGL0.out, HGL0.out⟩
      case rest =>
      obtain ⟨B0v, S0v, R0v, B1v, S1v, R1v, gl, pl, A8, c8, A9, c9, st', rfl, rfl, rfl, rfl, rfl, rfl, hgl, hpl, HD, HLF, HB, HSU, HAS, HSP, HAP2, HGL, HPL⟩ := hcut
      have q7 := crash_any c b st' HLF.out.1 keep A2 c2 wc HD.out ((R2.out.below HB.out).more HB.out.size) (fun h0 ad e => by
        obtain ⟨ad', e', hlt', _⟩ := R2.out.2 h0
        rw [e] at e'; injection e' with e'; subst e'
        have := HB.out.size
        exact ⟨by omega, by omega, by omega⟩) S2.out hl2
      obtain ⟨n3, base3, G3, fs3, m3, ho3, hF3, hop3, htot3, hfd3, hor⟩ := HLF.out.2 keep
      obtain ⟨s8, hs8⟩ : ∃ s, crashD st' keep = s := ⟨_, rfl⟩
      rw [hs8] at q7 ho3
      obtain ⟨sv, hsv⟩ : ∃ x, decide (n3 ≠ 0) = x := ⟨_, rfl⟩
      have HSV := Lib.hid hsv
      clear hsv
      have HO3 := Lib.hid ho3; have HF3 := Lib.hid hF3; have HOP3 := Lib.hid hop3; have HT3 := Lib.hid htot3; have HFD := Lib.hid hfd3; have HOR := Lib.hid hor
      clear HLF ho3 hF3 hop3 htot3 hfd3 hor hs8
      go_wp2_with fail
      refine q7.mono ?_
      rintro e u3 ⟨rfl, hd3, hm3⟩
      have UB3 := Lib.hid (open_here HB.out hm3 hc hb0)
      obtain ⟨hs3, _⟩ := row_by HSU.out hm3 HAS.out
      obtain ⟨hp3, _⟩ := row_by HSP.out hm3 HAP2.out
      have q8 := restore_any c b s8 u3 hd3
      have US3 := Lib.hid hs3; have UP3 := Lib.hid hp3
      clear q7 hd3 hm3 hs3 hp3 HB HD HSU HSP
      go_wp2_with fail
      refine q8.mono ?_
      rintro e u4 ⟨rfl, hd4, hm4⟩
      have UB4 := Lib.hid (Dk.there1 hc UB3.out hm4)
      have hs4 := (row_by US3.out hm4 (fun q hq e => HAS.out q hq (by simp at e ⊢; omega))).1
      have hp4 := (row_by UP3.out hm4 (fun q hq e => HAP2.out q hq (by simp at e ⊢; omega))).1
      have q9 : Calls Tryz.prog 6 #[.pointer (some ⟨c, 0, none⟩), .string ⟨#[119]⟩] u4 (OpenQ c b dirW n3 base3 G3 u4) := openQ c b dirW n3 base3 G3 HFD.out.nm _ fs3 m3 HO3.out HF3.out HOP3.out HT3.out u4 hd4
      have US4 := Lib.hid hs4; have UP4 := Lib.hid hp4
      clear q8 hd4 hm4 hs4 hp4 UB3 US3 UP3
      go_wp2_with fail
      refine q9.mono ?_
      rintro e u5 ⟨a5, g5, T5, s5, fs5, rfl, hst5, hd5, ho5, hF5, ha5, hT5, hm5⟩
      have UB5 := Lib.hid (open_here UB4.out hm5 hc hb0)
      have hs5 := (row_by US4.out hm5 HAS.out).1
      have hp5 := (row_by UP4.out hm5 HAP2.out).1
      have q10 := base_any hst5.1
      rw [baseOf_found HFD.out, HSV.out] at q10
      have ht5 : totF fs5 ≤ 100000000 := Nat.le_trans (tot_quiet hF5 HFD.out.bs HFD.out.fsz) (by decide)
      have e5 := hst5.1.cell0
      have q11 := records_any g5 c T5 _ _ u5 hst5.2.1 (Nat.le_trans HFD.out.len (by decide))
      change Calls _ _ _ _ fun e w' => ∃ v, e = .returned v ∧ w'.ownsRow u5.heap.size 9 1 v G3.flatten.length (strs G3.flatten) ∧ Below u5.heap.size u5 w' at q11
      obtain ⟨tl, htl⟩ : ∃ t, G3.flatten.length = t := ⟨_, rfl⟩
      have htl2 : tl ≤ 1000000 := by rw [← htl]; exact HFD.out.len
      rw [htl] at q11
      have HTL := Lib.hid htl
      have UD5 := Lib.hid hd5; have UO5 := Lib.hid ho5; have UF5 := Lib.hid hF5; have US5 := Lib.hid hs5; have UP5 := Lib.hid hp5; have UT5 := Lib.hid ht5
      clear q9 hst5 hd5 ho5 hF5 hT5 ha5 hm5 hs5 hp5 ht5 htl UB4 US4 UP4 HO3 HF3 HOP3 HT3
      go_wp2_with fail
      refine q10.mono ?_
      rintro e u6 ⟨rfl, rfl⟩
      go_wp2_with fail
      refine q11.mono ?_
      rintro e u6 ⟨v, rfl, hown6, hb6⟩
      obtain ⟨A11, c11, rfl, _⟩ := own_form hown6
      have UB6 := Lib.hid (UB5.out.trans (hb6.mono UB5.out.size))
      have hd6 : DkAt c b s5 u6 := UD5.out.below hb6 UD5.out.lt UD5.out.ltb
      have US6 := Lib.hid (Wi.ownsRow_keep US5.out (fun q hq => hb6.block q (US5.out.lt q hq).2))
      have UP6 := Lib.hid (Wi.ownsRow_keep UP5.out (fun q hq => hb6.block q (UP5.out.lt q hq).2))
      have UR6 := Lib.hid hown6
      have hlo6 : Hid (∀ q, (Value.slice A11 tl c11).ownBlock = some q → q ∉ [c, b]) := fun q hq e => by
        have h1 := (hown6.lt q hq).1
        have h2 := UD5.out.lt
        have h3 := UD5.out.ltb
        simp at e
        omega
      have q12 : Calls Tryz.prog 6 #[.pointer (some ⟨c, 0, none⟩), .string ⟨#[119]⟩] u6 (OpenQ c b dirW n3 base3 G3 u6) := openQ c b dirW n3 base3 G3 HFD.out.nm s5 fs5 _ UO5.out UF5.out (opn_quiet HFD.out.nm UF5.out HFD.out.zero HFD.out.bs HFD.out.fit) UT5.out u6 hd6
      clear q10 q11 hown6 hb6 hd6 UB5 UD5 US5 UP5 UO5 UF5 UT5
      go_wp2_with fail
      refine q12.mono ?_
      rintro e u7 ⟨a7, g7, T7, s7, fs7, rfl, hst7, hd7, _, _, ha7, hT7, hm7⟩
      have UB7 := Lib.hid (open_here UB6.out hm7 hc hb0)
      have US7 := Lib.hid (row_by US6.out hm7 HAS.out).1
      have UP7 := Lib.hid (row_by UP6.out hm7 HAP2.out).1
      have UR7 := Lib.hid (row_by UR6.out hm7 hlo6.out).1
      have UN7 := Lib.hid hst7
      have q13 := base_any hst7.1
      rw [baseOf_found HFD.out, HSV.out] at q13
      clear q12 hst7 hd7 hm7 ha7 hT7 UB6 US6 UP6 UR6
      go_wp2_with fail
      refine q13.mono ?_
      rintro e u8 ⟨rfl, rfl⟩
      clear q13
      have qo := fun (q : Nat) => Lib.hid (same_any G3.flatten R0v A11 A8 c11 c8 u7.heap.size (u7.drewN q) (by rw [HTL.out]; exact (Reads.of_own UR7.out).drewN q) (by rw [HGL.out]; exact (Reads.of_own US7.out).drewN q) (by rw [HTL.out]; omega) (by rw [HGL.out]; omega))
      have qn := fun (q : Nat) => Lib.hid (same_any G3.flatten R1v A11 A9 c11 c9 u7.heap.size (u7.drewN q) (by rw [HTL.out]; exact (Reads.of_own UR7.out).drewN q) (by rw [HPL.out]; exact (Reads.of_own UP7.out).drewN q) (by rw [HTL.out]; omega) (by rw [HPL.out]; omega))
      rw [HTL.out, HGL.out] at qo
      rw [HTL.out, HPL.out] at qn
      go_upto_region 35 with (fail)
      obtain ⟨x1, hx1⟩ : ∃ x, (base3.toList == B0v.toList) = x := ⟨_, rfl⟩
      obtain ⟨x2, hx2⟩ : ∃ x, (sv == S0v) = x := ⟨_, rfl⟩
      obtain ⟨y1, hy1⟩ : ∃ x, (base3.toList == B1v.toList) = x := ⟨_, rfl⟩
      obtain ⟨y2, hy2⟩ : ∃ x, (sv == S1v) = x := ⟨_, rfl⟩
      have HOR2 : Hid ((x1 = true ∧ x2 = true ∧ sameB G3.flatten R0v = true) ∨ (y1 = true ∧ y2 = true ∧ sameB G3.flatten R1v = true)) := by
        show _ ∨ _
        have hv := HSV.out
        rcases HOR.out with ⟨h1, h2, h3⟩ | ⟨h1, h2, h3⟩
        · refine .inl ⟨?_, ?_, ?_⟩
          · rw [← hx1, h1]; simp
          · rw [← hx2, ← hv, h2]; simp
          · rw [h3]; exact sameB_self _
        · refine .inr ⟨?_, ?_, ?_⟩
          · rw [← hy1, h1]; simp
          · rw [← hy2, ← hv, h2]; simp
          · rw [h3]; exact sameB_self _
      clear HOR HSV
      obtain ⟨so, hso⟩ : ∃ x, sameB G3.flatten R0v = x := ⟨_, rfl⟩
      obtain ⟨sn, hsn⟩ : ∃ x, sameB G3.flatten R1v = x := ⟨_, rfl⟩
      rw [hso] at qo HOR2
      rw [hsn] at qn HOR2
      go_cut [27] (fun v wx => ∃ (ob : Bool) (q : Nat), v = .bool ob ∧ Hid (ob = (x1 && (x2 && so))) ∧ Hid (wx = u7.drewN q))
      case first =>
        have qo0 : Calls Tryz.prog 21 #[.slice A11 tl c11, .slice A8 gl c8] u7 fun e w' => e = .returned (.bool so) ∧ ∃ q, w' = u7.drewN q := (qo 0).out
        cases x1
        · go_wp2_with fail
          go_meet
          exact ⟨false, 0, rfl, by show _ = _; rfl, rfl⟩
        · by_cases hne : sv = S0v
          · have h2 : x2 = true := by rw [← hx2, hne]; simp
            subst h2
            subst hne
            clear hx2
            go_wp2_with fail
            refine qo0.mono ?_
            rintro e u9 ⟨rfl, q, rfl⟩
            go_wp2
            go_meet
            exact ⟨so, q, rfl, by show _ = _; simp, rfl⟩
          · have h2 : x2 = false := by rw [← hx2]; simpa using hne
            subst h2
            clear hx2
            go_wp2_with fail
            go_meet
            exact ⟨false, 0, rfl, by show _ = _; rfl, rfl⟩
      case rest =>
      obtain ⟨ob, qq, rfl, HOB, HWX⟩ := hcut
      rw [HWX.out]
      clear hx1 hx2 qo
      go_upto_region 36 with (fail)
      go_cut [28] (fun v wx => ∃ (nb : Bool) (q : Nat), v = .bool nb ∧ Hid (nb = (y1 && (y2 && sn))) ∧ Hid (wx = u7.drewN q))
      case first =>
        have qn0 := (qn qq).out
        cases y1
        · go_wp2_with fail
          go_meet
          exact ⟨false, qq, rfl, by show _ = _; rfl, rfl⟩
        · by_cases hne : sv = S1v
          · have h2 : y2 = true := by rw [← hy2, hne]; simp
            subst h2
            subst hne
            clear hy2
            go_wp2_with fail
            refine qn0.mono ?_
            rintro e u9 ⟨rfl, q, rfl⟩
            go_wp2
            go_meet
            exact ⟨sn, qq + q, rfl, by show _ = _; simp, by show _ = _; first | rfl | rw [World.drewN_drewN]⟩
          · have h2 : y2 = false := by rw [← hy2]; simpa using hne
            subst h2
            clear hy2
            go_wp2_with fail
            go_meet
            exact ⟨false, qq, rfl, by show _ = _; rfl, rfl⟩
      case rest =>
      obtain ⟨nb, q3, rfl, HNB, HWX2⟩ := hcut
      rw [HWX2.out]
      have hor3 : (ob || nb) = true := by
        rw [HOB.out, HNB.out]
        rcases HOR2.out with ⟨h1, h2, h3⟩ | ⟨h1, h2, h3⟩
        · rw [h1, h2, h3]; rfl
        · rw [h1, h2, h3]; simp
      obtain ⟨u9, hu9⟩ : ∃ W, u7.drewN q3 = W := ⟨_, rfl⟩
      have UB9 : Hid (Below w.heap.size w u9) := by show Below _ _ _; rw [← hu9]; exact drewN_below UB7.out q3
      have UR9 : Hid (u9.ownsRow u5.heap.size 9 1 (.slice A11 tl c11) tl (strs G3.flatten)) := by show World.ownsRow _ _ _ _ _ _ _; rw [← hu9]; exact UR7.out
      have UN9 : Hid (StoreAt a7 g7 c T7 dirW ⟨n3, base3, false, logOf G3 false⟩ u9) := by show StoreAt _ _ _ _ _ _ _; rw [← hu9]; exact UN7.out
      rw [hu9]
      clear HOB HNB HWX HWX2 HOR2 hy1 hy2 qn hu9 UB7 UR7 UN7 US7 UP7 hso hsn
      have fin : ∀ (hh : (ob = true) ∨ (ob = false ∧ nb = true)), True := fun _ => trivial
      have hbb : (base3.toList == base3.toList) = true := by simp
      have hss : (sv == sv) = true := by simp
      rcases (show ob = true ∨ (ob = false ∧ nb = true) by cases ob <;> cases nb <;> simp_all) with rfl | ⟨rfl, rfl⟩
      all_goals
        clear fin hor3
        go_wp2_with fail
        refine (alive7_any _).mono ?_
        rintro e u10 ⟨rfl, hb10⟩
        have UB10 := Lib.hid (UB9.out.trans (hb10.mono UB9.out.size))
        have UR10 := Lib.hid (Wi.ownsRow_keep UR9.out (fun q hq => hb10.block q (UR9.out.lt q hq).2))
        have hn10 := UN9.out.below hb10
        have e10 := hn10.1.cell0
        have q16 := records_any g7 c T7 _ _ u10 hn10.2.1 (Nat.le_trans HFD.out.len (by decide))
        change Calls _ _ _ _ fun e w' => ∃ v, e = .returned v ∧ w'.ownsRow u10.heap.size 9 1 v G3.flatten.length (strs G3.flatten) ∧ Below u10.heap.size u10 w' at q16
        rw [HTL.out] at q16
        clear hn10 hb10 UB9 UR9 UN9
        go_wp2_with fail
        refine q16.mono ?_
        rintro e u11 ⟨v, rfl, hown11, hb11⟩
        obtain ⟨A12, c12, rfl, _⟩ := own_form hown11
        have ht11 := Wi.ownsRow_keep UR10.out (fun q hq => hb11.block q (UR10.out.lt q hq).2)
        have q17 := same_any G3.flatten G3.flatten A12 A11 c12 c11 u11.heap.size u11 (by rw [HTL.out]; exact Reads.of_own hown11) (by rw [HTL.out]; exact Reads.of_own ht11) (by rw [HTL.out]; omega) (by rw [HTL.out]; omega)
        rw [HTL.out, sameB_self] at q17
        have UB11 := Lib.hid (UB10.out.trans (hb11.mono UB10.out.size))
        clear q16 hown11 hb11 ht11 UB10 UR10
        go_wp2_with fail
        refine q17.mono ?_
        rintro e u12 ⟨rfl, q9, rfl⟩
        go_wp2_with fail
        refine (light6_none _).mono ?_
        rintro e u13 ⟨rfl, rfl⟩
        go_wp2
        go_ret
        exact ⟨rfl, drewN_below UB11.out q9⟩
end Go.Proofs.YtjhinifmdjlblaaGreat
