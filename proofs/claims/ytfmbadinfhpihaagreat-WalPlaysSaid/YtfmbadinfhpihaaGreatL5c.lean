/-
  The document's log (complineref5.Log): Commit as a contract.
  Conditions: a disk that agrees with one of the program's; records that nobody else turns, of bounded size.
-/
import Derived.Test.YtfmbadinfhpihaaGreatL5b
set_option linter.unusedVariables false
set_option linter.unusedSimpArgs false
namespace Go.Proofs.YtfmbadinfhpihaaGreat
open Go.RowKit Go.Maps
attribute [local go_sem ↓] Go.wp_at_zero Go.wp_at_succ
set_option maxRecDepth 100000

theorem L5At.set5 {y x : Nat} {S : List Nat} {nm : ByteArray} {st : Lg} {w : World} (h : L5At y x S nm st w) (b : Bool) : L5At y x S nm { st with broken := b } (w.setCell ⟨y, 5, none⟩ (.bool b)) := by
  obtain ⟨v, rfl, h2, h3, h4⟩ := h
  exact ⟨v, rfl, Blk.set_ (show Blk w y 97 _ from h2) 5 _, own_keep' h3 (fun k hk => Below.heap_setCell _ _ _ _ (fun e => h4 (by rw [hk]; exact congrArg some e))), h4⟩
/-- A group taken: records, how many groups, how many bytes. -/
theorem L5At.more {y x B n : Nat} {S : List Nat} {nm : ByteArray} {st : Lg} {w : World} (h : L5At y x S nm st w) {v : Value} {rs : List ByteArray} {gi zi : Int} {g z : Nat} (ho : w.ownsRow B 9 1 v n (strs rs)) (hn : rs.length = n) (hy : y < B) (hg : gi = (g : Int)) (hz : zi = (z : Int)) :
    L5At y x (y :: v.ownBlock.toList) nm ⟨rs, g, z, st.broken⟩ (((w.setCell ⟨y, 2, none⟩ v).setCell ⟨y, 3, none⟩ (.int .i64 gi)).setCell ⟨y, 4, none⟩ (.int .i64 zi)) := by
  subst hn hg hz
  have hne : v.ownBlock ≠ some y := fun e => by have := (ho.lt y e).1; omega
  have hk : ∀ k, v.ownBlock = some k → k ≠ y := fun k hk e => hne (by rw [hk, e])
  obtain ⟨v0, rfl, h2, h3, h4⟩ := h
  have ho' := own_weak ho (Nat.zero_le B)
  exact ⟨v, rfl, Blk.set_ (Blk.set_ (Blk.set_ (show Blk w y 97 _ from h2) 2 _) 3 _) 4 _, own_keep' (own_keep' (own_keep' ho' (fun k h => Below.heap_setCell _ _ _ _ (hk k h))) (fun k h => Below.heap_setCell _ _ _ _ (hk k h))) (fun k h => Below.heap_setCell _ _ _ _ (hk k h)), hne⟩
theorem longB_no {ss : List ByteArray} (h : ∀ (j : Nat) (s : ByteArray), ss[j]? = some s → s.size < 60000) : longB ss = false := by
  unfold longB
  rw [List.any_eq_false]
  intro s hs
  obtain ⟨j, hj⟩ := List.mem_iff_getElem?.1 hs
  have := h j s hj
  simp; omega
theorem longB_yes {ss : List ByteArray} {j : Nat} {s : ByteArray} (h : ss[j]? = some s) (hl : 60000 ≤ s.size) : longB ss = true := by
  unfold longB
  rw [List.any_eq_true]
  exact ⟨s, List.mem_of_getElem? h, by simpa using hl⟩
theorem reads_mv {w w' : World} {F F' : List Nat} {A : Option Addr} {sz n : Nat} {xs : List Value} (h : Reads w w.heap.size sz A n xs) (hm : Mv F F' w w') (ho : 0 < n → ∀ ad, A = some ad → ad.block ∉ F) : Reads w' w'.heap.size sz A n xs := ⟨h.1, fun hn => by
  obtain ⟨ad, e, hb, hc⟩ := h.2 hn
  refine ⟨ad, e, Nat.lt_of_lt_of_le hb hm.size, fun j u hu => ?_⟩
  rw [World.cell?_of_block (w := w) (w' := w') (by rw [block_of_add]; exact hm.block _ hb (ho hn ad e))]
  exact hc j u hu⟩

set_option maxHeartbeats 16000000 in
theorem commit5_any (y x : Nat) (T S : List Nat) (nm : ByteArray) (lg : Lg) (st : Dk) (r : D5) (ss : List ByteArray) (A : Option Addr) (cp : Nat) (w : World) (h : L5At y x T nm lg w) (hd : D5At x S r w) (ha : Agree5 st r)
    (hr : Reads w w.heap.size 1 A ss.length (strs ss)) (hA : 0 < ss.length → ∀ ad, A = some ad → ad.block ∉ S) (htot : total ss ≤ 50000000) (hL : ss.length ≤ 1000000) (hrl : lg.recs.length ≤ 1000000) (hgl : lg.groups ≤ 1000000000) (hzl : lg.size ≤ 1000000000) :
    Calls Tryz.prog 35 #[.pointer (some ⟨y, 0, none⟩), .slice A ss.length cp] w fun e w' => ∃ T' S', e = .returned (.int .i64 (commit5 nm lg r ss).1) ∧ L5At y x T' nm (commit5 nm lg r ss).2.1 w' ∧ D5At x S' (commit5 nm lg r ss).2.2 w' ∧ Mv (T ++ S) (T' ++ S') w w' := by
  obtain ⟨i0, hinf, hz0, hz1, hz2⟩ := info_parts infoT5
  obtain ⟨E, hE⟩ : ∃ E, (commit5 nm lg r ss).1 = E := ⟨_, rfl⟩
  obtain ⟨G', hG⟩ : ∃ E, (commit5 nm lg r ss).2.1 = E := ⟨_, rfl⟩
  obtain ⟨R', hR⟩ : ∃ E, (commit5 nm lg r ss).2.2 = E := ⟨_, rfl⟩
  rw [hE, hG, hR]
  have HER : Hid (commit5 nm lg r ss = (E, G', R')) := by show _ = _; rw [← hE, ← hG, ← hR]
  obtain ⟨n, hn⟩ : ∃ n, ss.length = n := ⟨_, rfl⟩
  rw [hn] at hr hA hL ⊢
  obtain ⟨br, hbr⟩ : ∃ b, lg.broken = b := ⟨_, rfl⟩
  have c5 := h.cell5
  rw [hbr] at c5
  have hyl := h.lt
  have HN := Lib.hid hn; have HR := Lib.hid hr; have HAA := Lib.hid hA; have HL := Lib.hid h; have HD := Lib.hid hd; have HA := Lib.hid ha; have HBR := Lib.hid hbr
  have HST := Lib.hid (fun (s : ByteArray) (hs : s ∈ ss) => size_le_total hs)
  clear hE hG hR hn hr hA h hd ha hbr
  go_enter Tryz.func35, Tryz.ntmps35
  cases br
  rotate_left
  · have HQ := Lib.hid (HER.out.symm.trans (show commit5 nm lg r ss = (14, lg, r) from by unfold commit5; rw [if_pos HBR.out]))
    go_wp2
    go_ret
    exact ⟨T, S, by rw [(Prod.mk.inj HQ.out).1]; rfl, by rw [(Prod.mk.inj (Prod.mk.inj HQ.out).2).1]; exact HL.out, by rw [(Prod.mk.inj (Prod.mk.inj HQ.out).2).2]; exact HD.out, Mv.refl _ _⟩
  go_wp2
  go_loopw [5, 6] (fun v i wr => ∃ k : Nat, k ≤ n ∧ i = .int .i64 k ∧ Hid (∀ (j : Nat) (s : ByteArray), j < k → ss[j]? = some s → s.size < 60000) ∧ Hid (wr.ownsRow w.heap.size 9 1 v k (strs ((ss.take k).map recOf))) ∧ Hid (Below w.heap.size w wr)) (fun _ i _ => n - (intOf i).toNat)
  case atStart => exact ⟨0, Nat.zero_le _, rfl, fun j s h => absurd h (by omega), World.ownsRow_nil _ _ _ _, Below.refl _ _⟩
  case round =>
    obtain ⟨k, hk, rfl, HSH, HO, HB⟩ := hrel
    obtain ⟨A2, c2, rfl, hc2⟩ := own_form HO.out
    have hsz := HB.out.size
    have b1 : (0 : Int) ≤ (k : Int) := by omega
    by_cases hlt : k < n
    · obtain ⟨ad, s, rfl, hab, hsk, hcell⟩ := str_at (HR.out.below HB.out) hlt
      have hsl : s.size ≤ total ss := HST.out s (List.mem_of_getElem? hsk)
      have HSK := Lib.hid hsk
      have b2 : (k : Int) < (n : Int) := by omega
      clear hsk
      by_cases hlong : 59999 < s.size
      · have hlb : decide ((s.size : Int) > 59999) = true := decide_eq_true (by omega)
        have HQ := Lib.hid (HER.out.symm.trans (show commit5 nm lg r ss = (2, lg, r) from by unfold commit5; rw [if_neg (by rw [HBR.out]; decide), if_pos (longB_yes HSK.out (by omega))]))
        clear hlong
        go_wp2
        go_ret
        exact ⟨T, S, by rw [(Prod.mk.inj HQ.out).1]; rfl, by rw [(Prod.mk.inj (Prod.mk.inj HQ.out).2).1]; exact HL.out.below HB.out, by rw [(Prod.mk.inj (Prod.mk.inj HQ.out).2).2]; exact HD.out.below HB.out, Mv.of_new HB.out (fun _ h => .inl h)⟩
      · have hlb : decide ((s.size : Int) > 59999) = false := decide_eq_false (by omega)
        have hcat : ¬ 9223372036854775807 < 1 + s.size := by omega
        have hown := HO.out
        have HSH2 : Hid (∀ (j : Nat) (s : ByteArray), j < k + 1 → ss[j]? = some s → s.size < 60000) := fun j z hj hz => by
          rcases Nat.lt_or_ge j k with h1 | h1
          · exact HSH.out j z h1 hz
          · obtain rfl : j = k := by omega
            rw [HSK.out] at hz
            injection hz with hz
            subst hz
            omega
        clear hlong
        go_wp2_with (at_builtin; go_loud (refine wpList_append_any _ rfl _ _ 22 rfl w.heap.size 9 i0 (.string ⟨#[]⟩) 1 16 Tryz.underlying22 hinf hz0 hz1 hz2 rfl (by decide) _ _ _ rfl (hown.alloc _) (wr.heap.size + 1) (some ⟨wr.heap.size, 0, none⟩) 1 1 [.string (recOf s)] rfl ?c1 ?c2 ?c3 ?c4 ?c5 ?_))
        case c1 => exact reads_newV wr _ _ _ rfl rfl rfl (Nat.lt_succ_self _)
        case c2 => simp [Value.oneCell']
        case c3 => unfold maxLen; omega
        case c4 => omega
        case c5 => simp; omega
        intro v4 w4 hown4 hgrow4 hlink4
        have HB4 : Hid (Below w.heap.size w w4) := by
          show Below _ _ _
          refine (HB.out.alloc hsz _).trans ⟨hgrow4.os, hgrow4.tape, hgrow4.output, hgrow4.size, fun q hq => hgrow4.block q (by simp; omega) (fun e => ?_)⟩
          have := (hown.lt q e.symm).1
          omega
        have HO4 : Hid (w4.ownsRow w.heap.size 9 1 v4 (k + 1) (strs ((ss.take (k + 1)).map recOf))) := by
          show World.ownsRow _ _ _ _ _ _ _
          rw [take_snoc HSK.out, List.map_append, strs_append, List.map_take]
          first | exact hown4 | (rw [List.map_take] at hown4; exact hown4)
        clear hgrow4 hlink4 hown4 hown
        go_wp2
        go_roundw
        case rel => exact ⟨k + 1, hlt, by go_num, HSH2.out, HO4.out, HB4.out⟩
        case measure => simp [intOf]; omega
    · obtain rfl : k = n := by omega
      have HLB : Hid (longB ss = false) := longB_no (fun j s hj => HSH.out j s (by have := (List.getElem?_eq_some_iff.1 hj).1; rw [HN.out] at this; exact this) hj)
      have HO' : Hid (wr.ownsRow w.heap.size 9 1 (.slice A2 k c2) k (strs (ss.map recOf))) := by
        have h := HO.out
        rw [List.take_of_length_le (by rw [HN.out]; exact Nat.le_refl _)] at h
        exact h
      have HL2 := Lib.hid (HL.out.below HB.out); have HD2 := Lib.hid (HD.out.below HB.out)
      clear HO HSH
      by_cases hk0 : k = 0
      · have hkb : ((k : Int) == 0) = true := by simp [hk0]
        have HQ := Lib.hid (HER.out.symm.trans (show commit5 nm lg r ss = (0, lg, r) from by unfold commit5; rw [if_neg (by rw [HBR.out]; decide), if_neg (by rw [HLB.out]; decide), if_pos (by rw [HN.out]; exact hk0)]))
        clear hk0
        go_wp2
        go_ret
        exact ⟨T, S, by rw [(Prod.mk.inj HQ.out).1]; rfl, by rw [(Prod.mk.inj (Prod.mk.inj HQ.out).2).1]; exact HL2.out, by rw [(Prod.mk.inj (Prod.mk.inj HQ.out).2).2]; exact HD2.out, Mv.of_new HB.out (fun _ h => .inl h)⟩
      · have hkb : ((k : Int) == 0) = false := beq_false_of_ne (by omega)
        have HK0 := Lib.hid hk0
        obtain ⟨W2, HW2⟩ : ∃ W, Hid (wr.alloc (.cells #[.slice none 0 0, .int .i64 0] 126) = W) := ⟨_, rfl⟩
        have HB2 : Hid (Below w.heap.size w W2) := by show Below _ _ _; rw [← HW2.out]; exact HB.out.alloc hsz _
        have HO2 : Hid (W2.ownsRow w.heap.size 9 1 (.slice A2 k c2) k (strs (ss.map recOf))) := by show World.ownsRow _ _ _ _ _ _ _; rw [← HW2.out]; exact HO'.out.alloc _
        have HRW : Hid (Wi.RwAt wr.heap.size [wr.heap.size] 0 [] W2) := by
          show Wi.RwAt _ _ _ _ _
          rw [← HW2.out]
          exact ⟨.slice none 0 0, by simp [Value.ownBlock], heap_alloc_new wr _, World.ownsRow_nil _ _ _ _, by simp [Value.ownBlock]⟩
        have NU := Lib.hid (Wi.rwnum0_any wr.heap.size [wr.heap.size] [] (k : Int) (by omega) (by omega) W2 HRW.out (by simp))
        have HLT := Lib.hid (fun q hq => (HO'.out.lt q hq).2)
        have hzW : wr.heap.size < W2.heap.size := HRW.out.lt
        clear hk0 HO' HL2 HD2
        go_upto_region 13 with (fail)
        rw [HW2.out]
        go_wp2_with fail
        refine NU.out.mono ?_
        rintro e w3 ⟨rfl, S3, hw3, hm3⟩
        have HO3 := Lib.hid (own_keep' HO2.out (fun q hq => hm3.block q (HO2.out.lt q hq).2 (fun e => by have h1 := HLT.out q hq; simp at e; omega)))
        have HB3 : Hid (Below w.heap.size w w3) := by
          show Below _ _ _
          exact HB2.out.trans ⟨hm3.os, hm3.tape, hm3.output, hm3.size, fun q hq => hm3.block q (Nat.lt_of_lt_of_le hq HB2.out.size) (by simp; omega)⟩
        have hbs : Wire.wNum [] (k : Int) = Wire.enc (Wire.zz k) := rfl
        rw [hbs] at hw3
        obtain ⟨v, hS3, hg3, hrow3, _⟩ := hw3
        obtain ⟨AB, cB, rfl, hcB⟩ := own_form hrow3
        obtain ⟨nb, hnb⟩ : ∃ nb, (Lib.byteCells (Wire.enc (Wire.zz k))).length = nb := ⟨_, rfl⟩
        rw [hnb] at hrow3 hg3 hcB
        have hcv := run_bytes_string (P := Tryz.prog) (c := cB) w3 Tryz.underlying48 Tryz.underlying5 Tryz.underlying9 (by rw [← hnb, Lib.byteCells_length]) (Reads.of_own hrow3)
        have d0 : w3.cell? ⟨wr.heap.size, 0, none⟩ = some (.slice AB nb cB) := by rw [Lib.cell_of_heap hg3]; rfl
        have hel := Wire.enc_le (Wire.zz (k : Int))
        have hcat : ¬ 9223372036854775807 < 1 + (⟨(Wire.enc (Wire.zz k)).toArray⟩ : ByteArray).size := by
          have h2 : (⟨(Wire.enc (Wire.zz k)).toArray⟩ : ByteArray).size = (Wire.enc (Wire.zz k)).length := by rw [← len_data]
          omega
        have hown := HO3.out
        have hz3 := HB3.out.size
        clear hm3 hS3 hg3 hrow3 hnb hbs NU HRW HO2 HO3 HB2 hcat
        go_wp2_with (at_builtin; go_loud (refine wpList_append_any _ rfl _ _ 22 rfl w.heap.size 9 i0 (.string ⟨#[]⟩) 1 16 Tryz.underlying22 hinf hz0 hz1 hz2 rfl (by decide) _ _ _ rfl (hown.alloc _) (w3.heap.size + 1) (some ⟨w3.heap.size, 0, none⟩) 1 1 [.string ((⟨#[99]⟩ : ByteArray) ++ ⟨(Wire.enc (Wire.zz k)).toArray⟩)] rfl ?c1 ?c2 ?c3 ?c4 ?c5 ?_))
        case c1 => exact reads_newV w3 _ _ _ rfl rfl rfl (Nat.lt_succ_self _)
        case c2 => simp [Value.oneCell']
        case c3 => unfold maxLen; omega
        case c4 => omega
        case c5 => simp; omega
        intro v4 w4 hown4 hgrow4 hlink4
        obtain ⟨mk, hmk⟩ : ∃ mk : ByteArray, mk = (⟨#[99]⟩ : ByteArray) ++ ⟨(Wire.enc (Wire.zz k)).toArray⟩ := ⟨_, rfl⟩
        rw [← hmk] at hown4
        have HB4 : Hid (Below w.heap.size w w4) := by
          show Below _ _ _
          refine (HB3.out.alloc hz3 _).trans ⟨hgrow4.os, hgrow4.tape, hgrow4.output, hgrow4.size, fun q hq => hgrow4.block q (by simp; omega) (fun e => ?_)⟩
          have := (hown.lt q e.symm).1
          omega
        obtain ⟨A4, c4, rfl, hc4⟩ := own_form hown4
        have hrd : Reads w4 w4.heap.size 1 A4 (k + 1) (strs (ss.map recOf ++ [mk])) := by
          rw [strs_append]
          exact Reads.of_own hown4
        have hlen : (ss.map recOf ++ [mk]).length = k + 1 := by rw [List.length_append, List.length_map, HN.out]; rfl
        have hmks : mk.size ≤ 11 := by
          rw [hmk, size_app']
          have h1 := Wire.enc_le (Wire.zz k)
          have h2 : (⟨(Wire.enc (Wire.zz k)).toArray⟩ : ByteArray).size = (Wire.enc (Wire.zz k)).length := by rw [← len_data]
          have : (⟨#[99]⟩ : ByteArray).size = 1 := rfl
          omega
        have q5 := Sm.rframe_any (ss.map recOf ++ [mk]) A4 c4 w4.heap.size w4 (by rw [hlen]; exact hrd) (Nat.le_refl _) (by rw [hlen, total_append, total_recs, total_cons, total_nil, HN.out]; omega)
        rw [hlen] at q5
        have hres : (⟨(Sum.frames (Sm.datas (ss.map recOf ++ [mk]))).toArray⟩ : ByteArray) = groupB ss := by
          rw [hmk, group_datas ss k HN.out]
          rfl
        rw [hres] at q5
        have hgz := group_len ss
        rw [HN.out] at hgz
        obtain ⟨gb, hgb⟩ : ∃ gb, groupB ss = gb := ⟨_, rfl⟩
        rw [hgb] at q5 hgz
        have HGB := Lib.hid hgb
        have HQ5 := Lib.hid q5
        clear hgrow4 hlink4 hown4 hown hrd hlen hmks hmk hres q5 hgb hcv d0
        go_wp2_with fail
        refine HQ5.out.mono ?_
        rintro e w5 ⟨rfl, hb5⟩
        have HB5 : Hid (Below w.heap.size w w5) := HB4.out.trans (hb5.mono HB4.out.size)
        have HL5 := Lib.hid (HL.out.below HB5.out); have HD5 := Lib.hid (HD.out.below HB5.out)
        have HOP : Hid (commit5 nm lg r ss = if (first5 (commit5s nm gb) r).1 = 0 then (0, ⟨lg.recs ++ ss, lg.groups + 1, lg.size + gb.size, false⟩, (first5 (commit5s nm gb) r).2) else ((first5 (commit5s nm gb) r).1, ⟨lg.recs, lg.groups, lg.size, true⟩, (first5 (commit5s nm gb) r).2)) := by
          show _ = _
          unfold commit5
          rw [if_neg (by rw [HBR.out]; decide), if_neg (by rw [HLB.out]; decide), if_neg (by rw [HN.out]; exact HK0.out), HGB.out]
        have AP := append5_any x S r nm gb (by omega) w5 HD5.out HA.out.ok5
        obtain ⟨r1, hr1⟩ : ∃ c, (append5 r nm gb).2 = c := ⟨_, rfl⟩
        obtain ⟨d1, hd1⟩ : ∃ c, (append5 r nm gb).1 = c := ⟨_, rfl⟩
        have hag := (HA.out.append nm gb).2
        rw [hr1] at hag
        rw [hr1, hd1] at AP
        have HAP : Hid (∀ q, Calls Tryz.prog 30 #[.pointer (some ⟨x, 0, none⟩), .string nm, .string gb] (w5.drewN q) fun e w' => ∃ S', e = .returned (.int .i64 d1) ∧ D5At x S' r1 w' ∧ Mv S S' w5 w') := fun q => by
          have AP' := append5_any x S r nm gb (by omega) (w5.drewN q) (HD5.out.drewN q) HA.out.ok5
          rw [hr1, hd1] at AP'
          refine AP'.mono ?_
          rintro e w' ⟨S', g1, g2, g3⟩
          exact ⟨S', g1, g2, ⟨g3.os, g3.tape, g3.output, g3.size, g3.block, g3.link⟩⟩
        have HA1 := Lib.hid hag; have HR1 := Lib.hid hr1; have HD1 := Lib.hid hd1
        have y0 : w5.cell? ⟨y, 0, none⟩ = some (.pointer (some ⟨x, 0, none⟩)) := HL5.out.cell0
        have y1 : w5.cell? ⟨y, 1, none⟩ = some (.string nm) := HL5.out.cell1
        clear hb5 HQ5 AP hag hr1 hd1
        go_upto_region 15 with (fail)
        go_cut [9] (fun ev wx => ev = .int .i64 d1 ∧ ∃ S1, Hid (D5At x S1 r1 wx) ∧ Hid (Mv S S1 w5 wx))
        case first =>
          go_wp2
          refine wp_region_held_drew (S := fun Y => Y.cell? ⟨y, 0, none⟩ = some (.pointer (some ⟨x, 0, none⟩)) ∧ Y.cell? ⟨y, 1, none⟩ = some (.string nm)) (by kernel_rfl) ⟨y0, y1⟩ (fun hHeld => ?_)
          refine wpAnyH_take (i := 0) (v := ?_) rfl (by kernel_rfl) (by kernel_rfl) (by kernel_rfl) (fun _ _ _ h => h) (Or.inl ⟨by rfl, ?_⟩) (by assumption) ?_
          rotate_left
          · intro X hSw; (try dsimp only at hSw); obtain ⟨s1, s2⟩ := hSw; (try simp only [List.getElem_toArray, List.getElem_cons_succ, List.getElem_cons_zero]); first | (go_simp; done) | (go_simp; with_reducible rfl)
          try simp only [Act.put, List.setIfInBounds_toArray, List.set_cons_zero, List.set_cons_succ, List.getElem_toArray, List.getElem_cons_succ, List.getElem_cons_zero]
          refine wpAnyH_take (i := 1) (v := ?_) rfl (by kernel_rfl) (by kernel_rfl) (by kernel_rfl) (fun _ _ _ h => h) (Or.inl ⟨by rfl, ?_⟩) (by assumption) ?_
          rotate_left
          · intro X hSw; (try dsimp only at hSw); obtain ⟨s1, s2⟩ := hSw; (try simp only [List.getElem_toArray, List.getElem_cons_succ, List.getElem_cons_zero]); first | (go_simp; done) | (go_simp; with_reducible rfl)
          try simp only [Act.put, List.setIfInBounds_toArray, List.set_cons_zero, List.set_cons_succ, List.getElem_toArray, List.getElem_cons_succ, List.getElem_cons_zero]
          refine wpAnyH_take (i := 2) (v := ?_) rfl (by kernel_rfl) (by kernel_rfl) (by kernel_rfl) (fun _ _ _ h => h) (Or.inl ⟨by rfl, ?_⟩) (by assumption) ?_
          rotate_left
          · intro X hSw; (try dsimp only at hSw); obtain ⟨s1, s2⟩ := hSw; (try simp only [List.getElem_toArray, List.getElem_cons_succ, List.getElem_cons_zero]); first | (go_simp; done) | (go_simp; with_reducible rfl)
          try simp only [Act.put, List.setIfInBounds_toArray, List.set_cons_zero, List.set_cons_succ, List.getElem_toArray, List.getElem_cons_succ, List.getElem_cons_zero]
          refine wpAnyH_take (i := 3) (v := ?_) rfl (by kernel_rfl) (by kernel_rfl) (by kernel_rfl) (fun _ _ _ h => h) (Or.inl ⟨by rfl, ?_⟩) (by assumption) ?_
          rotate_left
          · intro X hSw; (try dsimp only at hSw); obtain ⟨s1, s2⟩ := hSw; (try simp only [List.getElem_toArray, List.getElem_cons_succ, List.getElem_cons_zero]); first | (go_simp; done) | (go_simp; with_reducible rfl)
          try simp only [Act.put, List.setIfInBounds_toArray, List.set_cons_zero, List.set_cons_succ, List.getElem_toArray, List.getElem_cons_succ, List.getElem_cons_zero]
          refine wpAnyH_take (i := 4) (v := ?_) rfl (by kernel_rfl) (by kernel_rfl) (by kernel_rfl) (fun _ _ _ h => h) (Or.inl ⟨by rfl, ?_⟩) (by assumption) ?_
          rotate_left
          · intro X hSw; (try dsimp only at hSw); obtain ⟨s1, s2⟩ := hSw; (try simp only [List.getElem_toArray, List.getElem_cons_succ, List.getElem_cons_zero]); first | (go_simp; done) | (go_simp; with_reducible rfl)
          try simp only [Act.put, List.setIfInBounds_toArray, List.set_cons_zero, List.set_cons_succ, List.getElem_toArray, List.getElem_cons_succ, List.getElem_cons_zero]
          refine wpAnyH_take (i := 5) (v := ?_) rfl (by kernel_rfl) (by kernel_rfl) (by kernel_rfl) (fun _ _ _ h => h) (Or.inl ⟨by rfl, ?_⟩) (by assumption) ?_
          rotate_left
          · intro X hSw; (try dsimp only at hSw); obtain ⟨s1, s2⟩ := hSw; (try simp only [List.getElem_toArray, List.getElem_cons_succ, List.getElem_cons_zero]); first | (go_simp; done) | (go_simp; with_reducible rfl)
          try simp only [Act.put, List.setIfInBounds_toArray, List.set_cons_zero, List.set_cons_succ, List.getElem_toArray, List.getElem_cons_succ, List.getElem_cons_zero]
          refine wpAnyH_take (i := 6) (v := ?_) rfl (by kernel_rfl) (by kernel_rfl) (by kernel_rfl) (fun _ _ _ h => h) (Or.inl ⟨by rfl, ?_⟩) (by assumption) ?_
          rotate_left
          · intro X hSw; (try dsimp only at hSw); obtain ⟨s1, s2⟩ := hSw; (try simp only [List.getElem_toArray, List.getElem_cons_succ, List.getElem_cons_zero]); first | (go_simp; done) | (go_simp; with_reducible rfl)
          try simp only [Act.put, List.setIfInBounds_toArray, List.set_cons_zero, List.set_cons_succ, List.getElem_toArray, List.getElem_cons_succ, List.getElem_cons_zero]
          refine wpAnyH_take (i := 7) (v := ?_) rfl (by kernel_rfl) (by kernel_rfl) (by kernel_rfl) (fun _ _ _ h => h) (Or.inl ⟨by rfl, ?_⟩) (by assumption) ?_
          rotate_left
          · intro X hSw; (try dsimp only at hSw); obtain ⟨s1, s2⟩ := hSw; (try simp only [List.getElem_toArray, List.getElem_cons_succ, List.getElem_cons_zero]); first | (go_simp; done) | (go_simp; with_reducible rfl)
          try simp only [Act.put, List.setIfInBounds_toArray, List.set_cons_zero, List.set_cons_succ, List.getElem_toArray, List.getElem_cons_succ, List.getElem_cons_zero]
          refine wpAnyH_take (i := 8) (v := ?_) rfl (by kernel_rfl) (by kernel_rfl) (by kernel_rfl) (fun _ _ _ h => h) (Or.inl ⟨by rfl, ?_⟩) (by assumption) ?_
          rotate_left
          · intro X hSw; (try dsimp only at hSw); obtain ⟨s1, s2⟩ := hSw; (try simp only [List.getElem_toArray, List.getElem_cons_succ, List.getElem_cons_zero]); first | (go_simp; done) | (go_simp; with_reducible rfl)
          try simp only [Act.put, List.setIfInBounds_toArray, List.set_cons_zero, List.set_cons_succ, List.getElem_toArray, List.getElem_cons_succ, List.getElem_cons_zero]
          refine wpAnyH_ready (rs := [9]) (by kernel_rfl) (by simp) (AllReadyH.cons rfl (fun K hK => ?_) AllReadyH.nil)
          try simp only [List.getElem_toArray, List.getElem_cons_succ, List.getElem_cons_zero]
          go_simp
          refine (HAP.out 1).mono ?_
          rintro e w6 ⟨S1, rfl, hk1, hm1⟩
          have HK1 := Lib.hid hk1; have HM1 := Lib.hid hm1
          have HLX := HL5.out.beside HD5.out hm1
          clear hk1 hm1
          refine hK.out _ _ (⟨HLX.cell0, HLX.cell1⟩) (fun hHeld => ?_)
          clear hK K
          try simp only [Act.put, List.setIfInBounds_toArray, List.set_cons_zero, List.set_cons_succ, List.getElem_toArray, List.getElem_cons_succ, List.getElem_cons_zero]
          clear HLX
          refine wpAnyH_take (i := 10) (v := ?_) rfl (by kernel_rfl) (by kernel_rfl) (by kernel_rfl) (fun _ _ _ h => h) (Or.inl ⟨by rfl, ?_⟩) (by assumption) ?_
          rotate_left
          · intro X hSw; (try dsimp only at hSw); obtain ⟨s1, s2⟩ := hSw; (try simp only [List.getElem_toArray, List.getElem_cons_succ, List.getElem_cons_zero]); first | (go_simp; done) | (go_simp; with_reducible rfl)
          try simp only [Act.put, List.setIfInBounds_toArray, List.set_cons_zero, List.set_cons_succ, List.getElem_toArray, List.getElem_cons_succ, List.getElem_cons_zero]
          refine wpAnyH_done (by kernel_rfl) ?_ _
          go_wp2
          go_meet
          exact ⟨rfl, S1, HK1.out, HM1.out⟩
        case rest =>
        obtain ⟨rfl, S1, HK1, HM1⟩ := hcut
        obtain ⟨w6, hw6⟩ : ∃ X, X = wc := ⟨_, rfl⟩
        subst hw6
        have HL6 := Lib.hid (HL5.out.beside HD5.out HM1.out)
        have hz5 := HB5.out.size
        have hMW : Mv (T ++ S) (T ++ S1) w w6 := by
          have h1 : Mv (T ++ S) (T ++ S) w w5 := Mv.of_new HB5.out (fun _ h => .inl h)
          refine h1.trans ⟨HM1.out.os, HM1.out.tape, HM1.out.output, HM1.out.size, fun q hq hn => HM1.out.block q hq (fun e => hn (List.mem_append.2 (.inr e))), fun q hq => ?_⟩
          rcases List.mem_append.1 hq with h2 | h2
          · exact .inl (List.mem_append.2 (.inl h2))
          · rcases HM1.out.link q h2 with h3 | h3
            · exact .inl (List.mem_append.2 (.inr h3))
            · exact .inr h3
        have HMW := Lib.hid hMW
        clear hMW y0 y1 HAP
        by_cases z1 : d1 = 0
        · have z1b : (d1 != 0) = false := by simp [z1]
          have z1c : (d1 == 0) = true := by simp [z1]
          have Z1 := Lib.hid z1
          obtain ⟨r2, hr2⟩ : ∃ c, (sync5 r1 nm).2 = c := ⟨_, rfl⟩
          obtain ⟨d2, hd2⟩ : ∃ c, (sync5 r1 nm).1 = c := ⟨_, rfl⟩
          have HSY : Hid (∀ q, Calls Tryz.prog 69 #[.pointer (some ⟨x, 0, none⟩), .string nm] (w6.drewN q) fun e w' => ∃ S', e = .returned (.int .i64 d2) ∧ D5At x S' r2 w' ∧ Mv S1 S' w6 w') := fun q => by
            have AP' := sync5_any x S1 r1 nm (w6.drewN q) (HK1.out.drewN q) HA1.out.ok5
            rw [hr2, hd2] at AP'
            refine AP'.mono ?_
            rintro e w' ⟨S', g1, g2, g3⟩
            exact ⟨S', g1, g2, ⟨g3.os, g3.tape, g3.output, g3.size, g3.block, g3.link⟩⟩
          have HR2 := Lib.hid hr2; have HD2 := Lib.hid hd2
          have y0 : w6.cell? ⟨y, 0, none⟩ = some (.pointer (some ⟨x, 0, none⟩)) := HL6.out.cell0
          have y1 : w6.cell? ⟨y, 1, none⟩ = some (.string nm) := HL6.out.cell1
          have HF0 : Hid (first5 (commit5s nm gb) r = (if d2 = 0 then (0, r2) else (d2, r2))) := by
            show _ = _
            unfold commit5s
            rw [first5_yes (f := fun r => append5 r nm gb) (HD1.out.trans Z1.out), show ((fun r => append5 r nm gb) r).2 = r1 from HR1.out]
            show (if (sync5 r1 nm).1 = 0 then ((0 : Int), (sync5 r1 nm).2) else sync5 r1 nm) = _
            rw [HD2.out, HR2.out]
            by_cases hq : d2 = 0
            · rw [if_pos hq, if_pos hq]
            · rw [if_neg hq, if_neg hq]
              exact Prod.ext HD2.out HR2.out
          clear z1 hr2 hd2
          go_upto_region 17 with (fail)
          go_cut [9] (fun ev wx => ev = .int .i64 d2 ∧ ∃ S2, Hid (D5At x S2 r2 wx) ∧ Hid (Mv S1 S2 w6 wx))
          case first =>
            go_wp2
            refine wp_region_held_drew (S := fun Y => Y.cell? ⟨y, 0, none⟩ = some (.pointer (some ⟨x, 0, none⟩)) ∧ Y.cell? ⟨y, 1, none⟩ = some (.string nm)) (by kernel_rfl) ⟨y0, y1⟩ (fun hHeld => ?_)
            refine wpAnyH_take (i := 0) (v := ?_) rfl (by kernel_rfl) (by kernel_rfl) (by kernel_rfl) (fun _ _ _ h => h) (Or.inl ⟨by rfl, ?_⟩) (by assumption) ?_
            rotate_left
            · intro X hSw; (try dsimp only at hSw); obtain ⟨s1, s2⟩ := hSw; (try simp only [List.getElem_toArray, List.getElem_cons_succ, List.getElem_cons_zero]); first | (go_simp; done) | (go_simp; with_reducible rfl)
            try simp only [Act.put, List.setIfInBounds_toArray, List.set_cons_zero, List.set_cons_succ, List.getElem_toArray, List.getElem_cons_succ, List.getElem_cons_zero]
            refine wpAnyH_take (i := 1) (v := ?_) rfl (by kernel_rfl) (by kernel_rfl) (by kernel_rfl) (fun _ _ _ h => h) (Or.inl ⟨by rfl, ?_⟩) (by assumption) ?_
            rotate_left
            · intro X hSw; (try dsimp only at hSw); obtain ⟨s1, s2⟩ := hSw; (try simp only [List.getElem_toArray, List.getElem_cons_succ, List.getElem_cons_zero]); first | (go_simp; done) | (go_simp; with_reducible rfl)
            try simp only [Act.put, List.setIfInBounds_toArray, List.set_cons_zero, List.set_cons_succ, List.getElem_toArray, List.getElem_cons_succ, List.getElem_cons_zero]
            refine wpAnyH_take (i := 2) (v := ?_) rfl (by kernel_rfl) (by kernel_rfl) (by kernel_rfl) (fun _ _ _ h => h) (Or.inl ⟨by rfl, ?_⟩) (by assumption) ?_
            rotate_left
            · intro X hSw; (try dsimp only at hSw); obtain ⟨s1, s2⟩ := hSw; (try simp only [List.getElem_toArray, List.getElem_cons_succ, List.getElem_cons_zero]); first | (go_simp; done) | (go_simp; with_reducible rfl)
            try simp only [Act.put, List.setIfInBounds_toArray, List.set_cons_zero, List.set_cons_succ, List.getElem_toArray, List.getElem_cons_succ, List.getElem_cons_zero]
            refine wpAnyH_take (i := 3) (v := ?_) rfl (by kernel_rfl) (by kernel_rfl) (by kernel_rfl) (fun _ _ _ h => h) (Or.inl ⟨by rfl, ?_⟩) (by assumption) ?_
            rotate_left
            · intro X hSw; (try dsimp only at hSw); obtain ⟨s1, s2⟩ := hSw; (try simp only [List.getElem_toArray, List.getElem_cons_succ, List.getElem_cons_zero]); first | (go_simp; done) | (go_simp; with_reducible rfl)
            try simp only [Act.put, List.setIfInBounds_toArray, List.set_cons_zero, List.set_cons_succ, List.getElem_toArray, List.getElem_cons_succ, List.getElem_cons_zero]
            refine wpAnyH_take (i := 4) (v := ?_) rfl (by kernel_rfl) (by kernel_rfl) (by kernel_rfl) (fun _ _ _ h => h) (Or.inl ⟨by rfl, ?_⟩) (by assumption) ?_
            rotate_left
            · intro X hSw; (try dsimp only at hSw); obtain ⟨s1, s2⟩ := hSw; (try simp only [List.getElem_toArray, List.getElem_cons_succ, List.getElem_cons_zero]); first | (go_simp; done) | (go_simp; with_reducible rfl)
            try simp only [Act.put, List.setIfInBounds_toArray, List.set_cons_zero, List.set_cons_succ, List.getElem_toArray, List.getElem_cons_succ, List.getElem_cons_zero]
            refine wpAnyH_take (i := 5) (v := ?_) rfl (by kernel_rfl) (by kernel_rfl) (by kernel_rfl) (fun _ _ _ h => h) (Or.inl ⟨by rfl, ?_⟩) (by assumption) ?_
            rotate_left
            · intro X hSw; (try dsimp only at hSw); obtain ⟨s1, s2⟩ := hSw; (try simp only [List.getElem_toArray, List.getElem_cons_succ, List.getElem_cons_zero]); first | (go_simp; done) | (go_simp; with_reducible rfl)
            try simp only [Act.put, List.setIfInBounds_toArray, List.set_cons_zero, List.set_cons_succ, List.getElem_toArray, List.getElem_cons_succ, List.getElem_cons_zero]
            refine wpAnyH_take (i := 6) (v := ?_) rfl (by kernel_rfl) (by kernel_rfl) (by kernel_rfl) (fun _ _ _ h => h) (Or.inl ⟨by rfl, ?_⟩) (by assumption) ?_
            rotate_left
            · intro X hSw; (try dsimp only at hSw); obtain ⟨s1, s2⟩ := hSw; (try simp only [List.getElem_toArray, List.getElem_cons_succ, List.getElem_cons_zero]); first | (go_simp; done) | (go_simp; with_reducible rfl)
            try simp only [Act.put, List.setIfInBounds_toArray, List.set_cons_zero, List.set_cons_succ, List.getElem_toArray, List.getElem_cons_succ, List.getElem_cons_zero]
            refine wpAnyH_take (i := 7) (v := ?_) rfl (by kernel_rfl) (by kernel_rfl) (by kernel_rfl) (fun _ _ _ h => h) (Or.inl ⟨by rfl, ?_⟩) (by assumption) ?_
            rotate_left
            · intro X hSw; (try dsimp only at hSw); obtain ⟨s1, s2⟩ := hSw; (try simp only [List.getElem_toArray, List.getElem_cons_succ, List.getElem_cons_zero]); first | (go_simp; done) | (go_simp; with_reducible rfl)
            try simp only [Act.put, List.setIfInBounds_toArray, List.set_cons_zero, List.set_cons_succ, List.getElem_toArray, List.getElem_cons_succ, List.getElem_cons_zero]
            refine wpAnyH_ready (rs := [8]) (by kernel_rfl) (by simp) (AllReadyH.cons rfl (fun K hK => ?_) AllReadyH.nil)
            try simp only [List.getElem_toArray, List.getElem_cons_succ, List.getElem_cons_zero]
            go_simp
            refine (HSY.out 1).mono ?_
            rintro e w7 ⟨S2, rfl, hk2, hm2⟩
            have HK2 := Lib.hid hk2; have HM2 := Lib.hid hm2
            have HLX := HL6.out.beside HK1.out hm2
            clear hk2 hm2
            refine hK.out _ _ (⟨HLX.cell0, HLX.cell1⟩) (fun hHeld => ?_)
            clear hK K
            try simp only [Act.put, List.setIfInBounds_toArray, List.set_cons_zero, List.set_cons_succ, List.getElem_toArray, List.getElem_cons_succ, List.getElem_cons_zero]
            clear HLX
            refine wpAnyH_take (i := 9) (v := ?_) rfl (by kernel_rfl) (by kernel_rfl) (by kernel_rfl) (fun _ _ _ h => h) (Or.inl ⟨by rfl, ?_⟩) (by assumption) ?_
            rotate_left
            · intro X hSw; (try dsimp only at hSw); obtain ⟨s1, s2⟩ := hSw; (try simp only [List.getElem_toArray, List.getElem_cons_succ, List.getElem_cons_zero]); first | (go_simp; done) | (go_simp; with_reducible rfl)
            try simp only [Act.put, List.setIfInBounds_toArray, List.set_cons_zero, List.set_cons_succ, List.getElem_toArray, List.getElem_cons_succ, List.getElem_cons_zero]
            refine wpAnyH_done (by kernel_rfl) ?_ _
            go_wp2
            go_meet
            exact ⟨rfl, S2, HK2.out, HM2.out⟩
          case rest =>
          obtain ⟨rfl, S2, HK2, HM2⟩ := hcut
          obtain ⟨w7, hw7⟩ : ∃ X, X = wc := ⟨_, rfl⟩
          subst hw7
          have HL7 := Lib.hid (HL6.out.beside HK1.out HM2.out)
          have hMW : Mv (T ++ S) (T ++ S2) w w7 := by
            refine HMW.out.trans ⟨HM2.out.os, HM2.out.tape, HM2.out.output, HM2.out.size, fun q hq hn => HM2.out.block q hq (fun e => hn (List.mem_append.2 (.inr e))), fun q hq => ?_⟩
            rcases List.mem_append.1 hq with h2 | h2
            · exact .inl (List.mem_append.2 (.inl h2))
            · rcases HM2.out.link q h2 with h3 | h3
              · exact .inl (List.mem_append.2 (.inr h3))
              · exact .inr h3
          have HMW2 := Lib.hid hMW
          clear hMW y0 y1 HSY
          by_cases z2 : d2 = 0
          · have HF : Hid (first5 (commit5s nm gb) r = (0, r2)) := by
              show _ = _
              rw [HF0.out, if_pos z2]
            have HQ := Lib.hid (HER.out.symm.trans (HOP.out.trans (show _ = (0, (⟨lg.recs ++ ss, lg.groups + 1, lg.size + gb.size, false⟩ : Lg), r2) by rw [HF.out, if_pos rfl])))
            have z2b : (d2 != 0) = false := by simp [z2]
            have z2c : (d2 == 0) = true := by simp [z2]
            obtain ⟨AL, cL, hcL, hrL⟩ := HL7.out.row
            obtain ⟨p, hp⟩ : ∃ p, lg.recs.length = p := ⟨_, rfl⟩
            rw [hp] at hcL hrL hrl
            have HP := Lib.hid hp
            have HC2 := Lib.hid hcL
            have y3 : w7.cell? ⟨y, 3, none⟩ = some (.int .i64 lg.groups) := HL7.out.cell3
            have y4 : w7.cell? ⟨y, 4, none⟩ = some (.int .i64 lg.size) := HL7.out.cell4
            have HY34 : Hid (w7.cell? ⟨y, 3, none⟩ = some (.int .i64 lg.groups) ∧ w7.cell? ⟨y, 4, none⟩ = some (.int .i64 lg.size)) := ⟨y3, y4⟩
            have HRS : Hid (Reads w7 w7.heap.size 1 A k (strs ss)) := by
              have h1 := (HR.out.below HB5.out).more HB5.out.size
              have h2 := reads_mv h1 HM1.out (fun h0 ad e => HAA.out h0 ad e)
              refine reads_mv h2 HM2.out (fun h0 ad e hh => ?_)
              obtain ⟨ad', e', hlt', _⟩ := HR.out.2 h0
              rw [e] at e'
              injection e' with e'
              subst e'
              rcases HM1.out.link _ hh with h3 | h3
              · exact HAA.out h0 ad e h3
              · omega
            clear z2 hp HF y3 y4
            go_wp2_with (at_builtin; go_loud (refine wpList_append_any _ rfl _ _ 22 rfl w7.heap.size 9 i0 (.string ⟨#[]⟩) 1 16 Tryz.underlying22 hinf hz0 hz1 hz2 rfl (by decide) _ _ _ rfl (World.ownsRow_nil w7 w7.heap.size _ 1) w7.heap.size AL p cL (strs lg.recs) rfl ?k1 ?k2 ?k3 ?k4 ?k5 ?_))
            case k1 => exact hrL
            case k2 => simp [strs, Value.oneCell']
            case k3 => unfold maxLen; omega
            case k4 => omega
            case k5 => exact Nat.le_refl _
            intro v8 w8 hown8 hgrow8 _
            have hb8 : Below w7.heap.size w7 w8 := ⟨hgrow8.os, hgrow8.tape, hgrow8.output, hgrow8.size, fun q hq => hgrow8.block q hq (by simp [Value.ownBlock])⟩
            have hr8 := (HRS.out.below hb8).more hb8.size
            obtain ⟨A8, c8, rfl, hc8⟩ := own_form hown8
            clear hgrow8 HRS
            go_wp2_with (at_builtin; go_loud (refine wpList_append_any _ rfl _ _ 22 rfl w7.heap.size 9 i0 (.string ⟨#[]⟩) 1 16 Tryz.underlying22 hinf hz0 hz1 hz2 rfl (by decide) _ _ _ rfl hown8 w8.heap.size A k cp (strs ss) rfl ?e1 ?e2 ?e3 ?e4 ?e5 ?_))
            case e1 => exact hr8
            case e2 => simp [strs, Value.oneCell']
            case e3 => unfold maxLen; omega
            case e4 => omega
            case e5 => exact hb8.size
            intro v9 w9 hown9 hgrow9 _
            have hb9 : Below w7.heap.size w7 w9 := hb8.grown hgrow9 hb8.size (fun q hq => (hown8.lt q hq).1)
            have hy7 : y < w7.heap.size := HL7.out.lt
            have HL9 := Lib.hid (HL7.out.below hb9)
            have HK9 := Lib.hid (HK2.out.below hb9)
            have HO9 : Hid (w9.ownsRow w7.heap.size 9 1 v9 (p + k) (strs (lg.recs ++ ss))) := by show World.ownsRow _ _ _ _ _ _ _; rw [strs_append]; exact hown9
            have HB9 := Lib.hid hb9
            have x2 : w9.cell? ⟨y, 2, none⟩ = some (.slice AL p cL) := (hb9.cell (p := ⟨y, 2, none⟩) hy7).trans HC2.out
            have x3 : w9.cell? ⟨y, 3, none⟩ = some (.int .i64 lg.groups) := (hb9.cell (p := ⟨y, 3, none⟩) hy7).trans HY34.out.1
            have x4 : w9.cell? ⟨y, 4, none⟩ = some (.int .i64 lg.size) := (hb9.cell (p := ⟨y, 4, none⟩) hy7).trans HY34.out.2
            have g2 := HL9.out.frozen 2; have g3 := HL9.out.frozen 3; have g4 := HL9.out.frozen 4
            have HLX := Lib.hid (HL9.out.more (v := v9) (rs := lg.recs ++ ss) (g := lg.groups + 1) (z := lg.size + gb.size) (gi := (lg.groups : Int) + 1) (zi := (lg.size : Int) + (gb.size : Int)) HO9.out (by rw [List.length_append, HP.out, HN.out]) hy7 (by omega) (by omega))
            have hm9 : Mv [y] [y] w9 (((w9.setCell ⟨y, 2, none⟩ v9).setCell ⟨y, 3, none⟩ (.int .i64 ((lg.groups : Int) + 1))).setCell ⟨y, 4, none⟩ (.int .i64 ((lg.size : Int) + (gb.size : Int)))) := (((Mv.refl [y] w9).set_ (by simp) 2 _).set_ (by simp) 3 _).set_ (by simp) 4 _
            have HKX := Lib.hid (HK9.out.aside hm9 (fun k hk hh => by obtain rfl := List.mem_singleton.1 hh; exact l5_apart HL9.out HK9.out _ HL9.out.own hk))
            have HMX : Hid (Mv (T ++ S) ((y :: v9.ownBlock.toList) ++ S2) w (((w9.setCell ⟨y, 2, none⟩ v9).setCell ⟨y, 3, none⟩ (.int .i64 ((lg.groups : Int) + 1))).setCell ⟨y, 4, none⟩ (.int .i64 ((lg.size : Int) + (gb.size : Int))))) := by
              have h1 := HMW2.out.then_below HB9.out
              refine ⟨hm9.os.trans h1.os, hm9.tape.trans h1.tape, hm9.output.trans h1.output, Nat.le_trans h1.size hm9.size, fun q hq hn => ?_, fun q hq => ?_⟩
              · exact (hm9.block q (Nat.lt_of_lt_of_le hq h1.size) (by simp only [List.mem_singleton]; exact fun e => hn (List.mem_append.2 (.inl (by rw [e]; exact HL.out.own))))).trans (h1.block q hq hn)
              · rcases List.mem_append.1 hq with h2 | h2
                · simp only [List.mem_cons, Option.mem_toList] at h2
                  rcases h2 with rfl | h2
                  · exact .inl (List.mem_append.2 (.inl HL.out.own))
                  · exact .inr (Nat.le_trans HMW2.out.size (HO9.out.lt q h2).1)
                · exact HMW2.out.link q (List.mem_append.2 (.inr h2))
            obtain ⟨A9, c9, rfl, hc9⟩ := own_form hown9
            clear hown8 hown9 hgrow9 hb8 hb9 hr8 hm9 HL9 HK9
            go_wp2
            go_ret
            refine ⟨_, S2, by rw [(Prod.mk.inj HQ.out).1]; rfl, ?_, by rw [(Prod.mk.inj (Prod.mk.inj HQ.out).2).2]; exact HKX.out, HMX.out⟩
            have h9 := HLX.out
            rw [HBR.out] at h9
            rw [(Prod.mk.inj (Prod.mk.inj HQ.out).2).1]
            exact h9
          · have HF : Hid (first5 (commit5s nm gb) r = (d2, r2)) := by
              show _ = _
              rw [HF0.out, if_neg z2]
            have z := z2
            clear z2
            have HQ := Lib.hid (HER.out.symm.trans (HOP.out.trans (show _ = (d2, (⟨lg.recs, lg.groups, lg.size, true⟩ : Lg), r2) by rw [HF.out, if_neg z])))
            have zb : (d2 != 0) = true := by simp [z]
            have zc : (d2 == 0) = false := beq_false_of_ne z
            have y5 : w7.cell? ⟨y, 5, none⟩ = some (.bool false) := by have h := HL7.out.cell5; rw [HBR.out] at h; exact h
            have f5 : w7.frozen? ⟨y, 5, none⟩ = false := HL7.out.frozen 5
            have HLX := Lib.hid (HL7.out.set5 true)
            have hm5 : Mv [y] [y] w7 (w7.setCell ⟨y, 5, none⟩ (.bool true)) := (Mv.refl [y] w7).set_ (by simp) 5 _
            have HKX := Lib.hid (HK2.out.aside hm5 (fun k hk hh => by obtain rfl := List.mem_singleton.1 hh; exact l5_apart HL7.out HK2.out _ HL7.out.own hk))
            have HMX := Lib.hid (HMW2.out.set_ (List.mem_append.2 (.inl HL7.out.own)) 5 (.bool true))
            clear z hm5 HF
            go_wp2
            go_ret
            exact ⟨T, S2, by rw [(Prod.mk.inj HQ.out).1]; rfl, by rw [(Prod.mk.inj (Prod.mk.inj HQ.out).2).1]; exact HLX.out, by rw [(Prod.mk.inj (Prod.mk.inj HQ.out).2).2]; exact HKX.out, HMX.out⟩
        · have HF : Hid (first5 (commit5s nm gb) r = (d1, r1)) := by
            show _ = _
            unfold commit5s
            rw [first5_no (f := fun r => append5 r nm gb) (by rw [show ((fun r => append5 r nm gb) r).1 = d1 from HD1.out]; exact z1)]
            exact Prod.ext HD1.out HR1.out
          have z := z1
          clear z1
          have HQ := Lib.hid (HER.out.symm.trans (HOP.out.trans (show _ = (d1, (⟨lg.recs, lg.groups, lg.size, true⟩ : Lg), r1) by rw [HF.out, if_neg z])))
          have zb : (d1 != 0) = true := by simp [z]
          have zc : (d1 == 0) = false := beq_false_of_ne z
          have y5 : w6.cell? ⟨y, 5, none⟩ = some (.bool false) := by have h := HL6.out.cell5; rw [HBR.out] at h; exact h
          have f5 : w6.frozen? ⟨y, 5, none⟩ = false := HL6.out.frozen 5
          have HLX := Lib.hid (HL6.out.set5 true)
          have hm5 : Mv [y] [y] w6 (w6.setCell ⟨y, 5, none⟩ (.bool true)) := (Mv.refl [y] w6).set_ (by simp) 5 _
          have HKX := Lib.hid (HK1.out.aside hm5 (fun k hk hh => by obtain rfl := List.mem_singleton.1 hh; exact l5_apart HL6.out HK1.out _ HL6.out.own hk))
          have HMX := Lib.hid (HMW.out.set_ (List.mem_append.2 (.inl HL6.out.own)) 5 (.bool true))
          clear z hm5 HF
          go_wp2
          go_ret
          exact ⟨T, S1, by rw [(Prod.mk.inj HQ.out).1]; rfl, by rw [(Prod.mk.inj (Prod.mk.inj HQ.out).2).1]; exact HLX.out, by rw [(Prod.mk.inj (Prod.mk.inj HQ.out).2).2]; exact HKX.out, HMX.out⟩
end Go.Proofs.YtfmbadinfhpihaaGreat
