/-
  The walk of SumTells: for every list of texts and every text it returns true, and nothing that was there has turned.
  Conditions: texts within what a slice and a string may have.
-/
import Derived.Test.YtfejelcjklmchaaGreatSum4
import Derived.Test.YtfejelcjklmchaaGreatRs2
import Derived.Test.YtfejelcjklmchaaGreatLentT
import Derived.Test.YtfejelcjklmchaaGreatBk8
namespace Go.Proofs.YtfejelcjklmchaaGreat
open Go.RowKit
attribute [local go_sem ↓] Go.wp_at_zero Go.wp_at_succ
set_option maxRecDepth 100000

set_option maxHeartbeats 400000 in
theorem joined_any (ss : List ByteArray) (A : Option Addr) (c B : Nat) (w : World) (hr : Reads w B 1 A ss.length (strs ss)) (hl : ss.length ≤ 9223372036854775807) (hN : total ss ≤ 1000000000) :
    Calls Tryz.prog 11 #[.slice A ss.length c] w fun e w' => e = .returned (.string ⟨(cat ss).toArray⟩) ∧ w = w' := by
  generalize hn : ss.length = n at *
  have Hn := Lib.hid hn; clear hn
  go_enter Tryz.func11, Tryz.ntmps11
  go_wp2
  go_loop [3, 4] (fun t i => ∃ (k : Nat) (u : ByteArray), k ≤ n ∧ i = .int .i64 k ∧ t = .string u ∧ u.size ≤ 1000000000 ∧ Hid (u.data.toList = cat (ss.take k))) (fun _ i => n - (intOf i).toNat)
  case atStart => exact ⟨0, ⟨#[]⟩, Nat.zero_le _, rfl, rfl, by decide, rfl⟩
  case round =>
    obtain ⟨k, u, hk, rfl, rfl, hu, HU⟩ := hrel
    by_cases hlt : k < n
    · obtain ⟨ad, s, rfl, _, hsk, hc⟩ := str_at hr hlt
      have hst : s.size ≤ 1000000000 := by have := size_le_total (List.mem_of_getElem? hsk); omega
      have Hsk := Lib.hid hsk; clear hsk
      go_wp2
      go_round
      case rel =>
        have hd : (u ++ s).data.toList = cat (ss.take (k + 1)) := by rw [data_append, HU.out, take_snoc Hsk.out, cat_snoc]
        refine ⟨k + 1, _, by omega, by go_num, rfl, ?_, hd⟩
        rw [← len_data, hd, cat_length]
        have := total_take_le ss (k + 1)
        omega
      case measure => simp [intOf]; omega
    · go_wp2
      go_ret
      have h1 := HU.out
      rw [List.take_of_length_le (by have := Hn.out; omega)] at h1
      refine ⟨ret_string ?_, rfl⟩
      apply of_data
      rw [h1]
/-- What both find in bytes, under names. -/
theorem scan_gives (s : ByteArray) (T : List ByteArray) (n m : Nat) (hT : T = texts (Sum.scan s.data.toList).1) (hm : T.length = m) (hn : (Sum.scan s.data.toList).2 = n) (w : World) (hN : s.size ≤ 1000000000) :
    Calls Tryz.prog 8 #[.string s] w fun e w' => ∃ A c, e = .returned (.tuple #[.slice A m c, .int .i64 n]) ∧ w'.ownsRow w.heap.size 9 1 (.slice A m c) m (strs T) ∧ Below w.heap.size w w' := by
  have e : (Sum.scan s.data.toList).1.length = m := by rw [← hm, hT]; simp [texts]
  refine (scan_any s w hN).mono ?_
  rw [e, hn, ← hT]
  exact fun _ _ h => h
theorem rscan_gives (s : ByteArray) (T : List ByteArray) (n m : Nat) (hT : T = texts (Sum.scan s.data.toList).1) (hm : T.length = m) (hn : (Sum.scan s.data.toList).2 = n) (w : World) (hN : s.size ≤ 1000000000) :
    Calls Tryz.prog 6 #[.string s] w fun e w' => ∃ A c, e = .returned (.tuple #[.slice A m c, .int .i64 n]) ∧ w'.ownsRow w.heap.size 9 1 (.slice A m c) m (strs T) ∧ Below w.heap.size w w' := by
  have e : (Sum.scan s.data.toList).1.length = m := by rw [← hm, hT]; simp [texts]
  refine (rscan_any s w hN).mono ?_
  rw [e, hn, ← hT]
  exact fun _ _ h => h
theorem same_self (ss : List ByteArray) (A A' : Option Addr) (c c' n B : Nat) (hn : ss.length = n) (w : World) (hr : Reads w B 1 A n (strs ss)) (hr' : Reads w B 1 A' n (strs ss)) (hl : n ≤ 9223372036854775807) :
    Calls Tryz.prog 14 #[.slice A n c, .slice A' n c'] w fun e w' => e = .returned (.bool true) ∧ Below w.heap.size w w' := by
  subst hn
  have h := same_any ss ss A A' c c' B w hr hr' hl hl
  rw [sameB_self'] at h
  refine h.mono ?_
  rintro e w' ⟨rfl, q, rfl⟩
  exact ⟨rfl, drewN_below (Below.refl _ _) q⟩
theorem lent_first {l : List ByteArray} {g n B : Nat} {w : World} (hn : l.length = n) (hr : Reads w B 1 (some ⟨g, 0, none⟩) (n + 1) (strs (l ++ [markS]))) : Reads w B 1 (some ⟨g, 0, none⟩) n (strs l) := by
  subst hn
  refine ⟨by simp [strs], fun _ => ?_⟩
  obtain ⟨ad, e, hb, hc⟩ := hr.2 (by omega)
  refine ⟨ad, e, hb, fun j u hu => hc j u ?_⟩
  have e2 : strs (l ++ [markS]) = strs l ++ [.string markS] := by simp [strs]
  rw [e2, List.getElem?_append_left (List.getElem?_eq_some_iff.1 hu).1]
  exact hu
theorem tells_short (ss : List ByteArray) (s : ByteArray) (hs6 : shortB 100 6000 ss = false ∨ 6000 < s.size) (A : Option Addr) (c : Nat) (w : World) (hr : Reads w w.heap.size 1 A ss.length (strs ss)) (hl : ss.length ≤ 9223372036854775807) (hs : ∀ s ∈ ss, s.size ≤ 9223372036854775807) (hsz : s.size ≤ 9223372036854775807) :
    Calls Tryz.prog 3 #[.slice A ss.length c, .string s] w fun e w' => e = .returned (.bool true) ∧ Below w.heap.size w w' := by
  have Hs := Lib.hid hs; clear hs
  have Hr := Lib.hid hr; clear hr
  by_cases h1 : shortB 100 6000 ss = false
  · have Hsh := Lib.hid h1
    clear h1 hs6
    go_enter Tryz.func3, Tryz.ntmps3
    go_wp2_with fail
    refine (short4_any ss A c _ Hr.out hl Hs.out).mono ?_
    rintro e w1 ⟨rfl, hb1⟩
    rw [Hsh.out]
    go_wp2_with fail
    refine (alive4_any _).mono ?_
    rintro e w2 ⟨rfl, hb2⟩
    go_wp2
    go_ret
    exact ⟨rfl, hb1.trans (hb2.mono hb1.size)⟩
  · have h1' : shortB 100 6000 ss = true := by simpa using h1
    have hs6' : (6000 : Int) < s.size := by rcases hs6 with h | h; exact absurd h h1; omega
    have Hsh := Lib.hid h1'
    clear h1 hs6 h1'
    go_enter Tryz.func3, Tryz.ntmps3
    go_wp2_with fail
    refine (short4_any ss A c _ Hr.out hl Hs.out).mono ?_
    rintro e w1 ⟨rfl, hb1⟩
    rw [Hsh.out]
    go_wp2_with fail
    refine (alive4_any _).mono ?_
    rintro e w2 ⟨rfl, hb2⟩
    go_wp2
    go_ret
    exact ⟨rfl, hb1.trans (hb2.mono hb1.size)⟩
set_option maxHeartbeats 8000000 in
theorem tells_walk (ss : List ByteArray) (s : ByteArray) (A : Option Addr) (c : Nat) (w : World) (hr : Reads w w.heap.size 1 A ss.length (strs ss)) (hl : ss.length ≤ 9223372036854775807) (hs : ∀ s ∈ ss, s.size ≤ 9223372036854775807) (hsz : s.size ≤ 9223372036854775807) :
    Calls Tryz.prog 3 #[.slice A ss.length c, .string s] w fun e w' => e = .returned (.bool true) ∧ Below w.heap.size w w' := by
  by_cases hs6 : shortB 100 6000 ss = false ∨ 6000 < s.size
  · exact tells_short ss s hs6 A c w hr hl hs hsz
  have hsh : shortB 100 6000 ss = true := by
    cases h : shortB 100 6000 ss
    · exact absurd (.inl h) hs6
    · rfl
  have hs6' : s.size ≤ 6000 := by
    rcases Nat.lt_or_ge 6000 s.size with h | h
    · exact absurd (.inr h) hs6
    · exact h
  clear hs6 hsz
  have hsh' := shortB_iff.1 hsh
  have htot := hsh'.2
  have hlen := hsh'.1
  have Hsh := Lib.hid hsh; have Hs := Lib.hid hs; have Hr := Lib.hid hr
  clear hsh hsh' hs hr
  obtain ⟨n, hn⟩ : ∃ n, ss.length = n := ⟨_, rfl⟩
  have HN := Lib.hid hn
  rw [hn] at hl hlen ⊢
  have Hr' : Hid (Reads w w.heap.size 1 A n (strs ss)) := by show Reads _ _ _ _ _ _; rw [← hn]; exact Hr.out
  clear hn
  obtain ⟨T, HT⟩ : ∃ T, Hid (T = texts (Sum.scan s.data.toList).1) := ⟨_, rfl⟩
  obtain ⟨m, HM⟩ : ∃ m, Hid (T.length = m) := ⟨_, rfl⟩
  obtain ⟨N, HNN⟩ : ∃ N, Hid ((Sum.scan s.data.toList).2 = N) := ⟨_, rfl⟩
  have hm6 : m ≤ 6000 := by
    have h1 := Sum.scan_framed s.data.toList
    have h2 : (Sum.frames (Sum.scan s.data.toList).1).length ≤ s.size := by rw [h1, ← len_data]; exact List.length_take_le' _ _
    rw [Sum.frames_length] at h2
    have h3 : (Sum.scan s.data.toList).1.length = m := by have := HM.out; rw [HT.out] at this; rw [← this]; simp [texts]
    omega
  obtain ⟨F, HF⟩ : ∃ F : ByteArray, Hid (F = ⟨(Sum.frames (datas ss)).toArray⟩) := ⟨_, rfl⟩
  obtain ⟨u, Hu⟩ : ∃ u : ByteArray, Hid (u = ⟨(cat ss).toArray⟩) := ⟨_, rfl⟩
  have hus : u.size ≤ 6000 := by rw [Hu.out, ← len_data, data_mk, cat_length]; exact htot
  have Hud : Hid (u.data.toList = cat ss) := by show _ = _; rw [Hu.out, data_mk]
  obtain ⟨x, Hx⟩ : ∃ x : Nat, Hid (Sum.crc (cat ss) = x) := ⟨_, rfl⟩
  have Hlen : Hid (ss.length ≤ 9223372036854775807) := by show _ ≤ _; rw [HN.out]; exact hl
  have CS : Hid (∀ W, Reads W W.heap.size 1 A n (strs ss) → Calls Tryz.prog 4 #[.slice A n c] W fun e w' => e = .returned (.bool true) ∧ Below W.heap.size W w') := fun W h => by
    have := short4_any ss A c W (by rw [HN.out]; exact h) Hlen.out Hs.out
    rw [HN.out, Hsh.out] at this
    exact this
  have CL : Hid (∀ W, Reads W W.heap.size 1 A n (strs ss) → Calls Tryz.prog 7 #[.slice A n c] W fun e w' => ∃ g cap, e = .returned (.slice (some ⟨g, 0, none⟩) n cap) ∧ n + 1 ≤ cap ∧ cap ≤ 9223372036854775807 ∧ W.heap.size ≤ g ∧ g < w'.heap.size ∧ Reads w' w'.heap.size 1 (some ⟨g, 0, none⟩) (n + 1) (strs (ss ++ [markS])) ∧ Below W.heap.size W w') := fun W h => by
    have := lentT_any ss A c W (by rw [HN.out]; exact h) (by rw [HN.out]; omega)
    rw [HN.out] at this
    exact this
  have CC : Hid (∀ W B A' c', Reads W B 1 A' n (strs ss) → Calls Tryz.prog 9 #[.slice A' n c'] W fun e w' => e = .returned (.int .i64 x) ∧ W = w') := fun W B A' c' h => crc_is ss A' c' n B x HN.out Hx.out W h (by omega) (by omega)
  have CJ : Hid (∀ W B, Reads W B 1 A n (strs ss) → Calls Tryz.prog 11 #[.slice A n c] W fun e w' => e = .returned (.string u) ∧ W = w') := fun W B h => by
    have := joined_any ss A c B W (by rw [HN.out]; exact h) Hlen.out (by omega)
    rw [HN.out, ← Hu.out] at this
    exact this
  have CR : Hid (∀ W, Calls Tryz.prog 10 #[.string u] W fun e w' => e = .returned (.int .i64 x) ∧ W = w') := fun W => by
    have := rcrc_any u (cat ss) Hud.out (by omega) W
    rw [Hx.out] at this
    exact this
  have CF : Hid (∀ W A' c', Reads W W.heap.size 1 A' n (strs ss) → Calls Tryz.prog 12 #[.slice A' n c'] W fun e w' => e = .returned (.string F) ∧ Below W.heap.size W w') := fun W A' c' h => by
    have := frame_is ss A' c' n HN.out _ rfl W h (by omega)
    rw [← HF.out] at this
    exact this
  have CG : Hid (∀ W, Reads W W.heap.size 1 A n (strs ss) → Calls Tryz.prog 13 #[.slice A n c] W fun e w' => e = .returned (.string F) ∧ Below W.heap.size W w') := fun W h => by
    have := rframe_any ss A c W.heap.size W (by rw [HN.out]; exact h) (Nat.le_refl _) (by rw [HN.out]; omega)
    rw [HN.out, ← HF.out] at this
    exact this
  have CT : Hid (∀ W g cap, n + 1 ≤ cap → Reads W W.heap.size 1 (some ⟨g, 0, none⟩) (n + 1) (strs (ss ++ [markS])) → Reads W W.heap.size 1 A n (strs ss) → cap ≤ 9223372036854775807 → Calls Tryz.prog 15 #[.slice (some ⟨g, 0, none⟩) n cap, .slice A n c] W fun e w' => e = .returned (.bool true) ∧ Below W.heap.size W w') := fun W g cap h1 h2 h3 h4 => by
    have := staysT_any ss g cap A c W (by rw [HN.out]; exact h1) (by rw [HN.out]; exact h2) (by rw [HN.out]; exact h3) (by rw [HN.out]; omega) h4
    rw [HN.out] at this
    exact this.mono fun e w' ⟨he, q, hq⟩ => ⟨he, by rw [hq]; exact drewN_below (Below.refl _ _) q⟩
  have hs9 : (s.size : Int) ≤ 6000 := by omega
  have hs10 : s.size ≤ 1000000000 := by omega
  go_enter Tryz.func3, Tryz.ntmps3
  go_wp2_with fail
  refine (CS.out w Hr'.out).mono ?_
  rintro e w1 ⟨rfl, hb1⟩
  have hz1 := hb1.size
  have HB1 := Lib.hid hb1
  clear hb1
  go_wp2_with fail
  refine (rscan_gives s T N m HT.out HM.out HNN.out _ hs10).mono ?_
  rintro e w2 ⟨Ax, cx, rfl, hx, hb2⟩
  have hz2 : w1.heap.size + 1 ≤ w2.heap.size := by simpa using hb2.size
  have hK0 : BkAt w1.heap.size (.slice none 0 0) (.slice none 0 0) [] w2 := (bk_new w1).below hb2
  have HB2 : Hid (Below w.heap.size w w2) := (HB1.out.alloc hz1 _).trans (hb2.mono (by simp; omega))
  have HXL : Hid (∀ q, (Value.slice Ax m cx).ownBlock = some q → w1.heap.size + 1 ≤ q) := fun q hq => by have := (hx.lt q hq).1; simpa using this
  have HX := Lib.hid (own_base0 hx)
  have HK0 := Lib.hid hK0
  clear hx hb2 hK0
  go_wp2
  go_loopw [8] (fun i wr => ∃ (k : Nat) (tv wv : Value) (L : List TRow), k ≤ 2 ∧ i = .int .i64 k ∧ L.length = k ∧ Hid (BkAt w1.heap.size tv wv L wr) ∧ Hid (∀ r ∈ L, r.mm = r.ss ∧ r.ss.length ≤ 10000000) ∧ Hid (∀ q ∈ bkBlocks w1.heap.size tv wv L, w1.heap.size ≤ q) ∧ Hid (wr.ownsRow 0 9 1 (.slice Ax m cx) m (strs T)) ∧ Hid (∀ q, (Value.slice Ax m cx).ownBlock = some q → q ∉ bkBlocks w1.heap.size tv wv L) ∧ Hid (Below w.heap.size w wr)) (fun i _ => 2 - (intOf i).toNat)
  case atStart => exact ⟨0, _, _, [], by omega, rfl, rfl, HK0.out, by intro r hr; simp at hr, fun q hq => by simp [bkBlocks, rowBlocks, Value.ownBlock] at hq; omega, HX.out, fun q hq => by have := HXL.out q hq; simp [bkBlocks, rowBlocks, Value.ownBlock]; omega, HB2.out⟩
  case round =>
    clear HX HK0 HB2 HXL HB1
    obtain ⟨k, tv, wv, L, hk, rfl, hL, HK, HC, HBL, HX, HXN, HB⟩ := hrel
    have hzr := HB.out.size
    have hgw : w1.heap.size < wr.heap.size := HK.out.there _ (mem_bk.2 (.inl rfl))
    by_cases hlt : k < 2
    · go_wp2_with fail
      refine (CL.out wr (Hr'.out.below HB.out |>.more hzr)).mono ?_
      rintro e w3 ⟨gm, cm, rfl, hcm, hcm2, hgm, hgm3, hrm, hb3⟩
      have hz3 := hb3.size
      go_wp2_with fail
      refine (scan_gives s T N m HT.out HM.out HNN.out _ hs10).mono ?_
      rintro e w4 ⟨Ay, cy, rfl, hy, hb4⟩
      have hz4 := hb4.size
      have HB4 : Hid (Below w.heap.size w w4) := HB.out.trans ((hb3.mono hzr).trans (hb4.mono (by omega)))
      have hbr4 : Below wr.heap.size wr w4 := hb3.trans (hb4.mono hz3)
      have hrl : Reads w4 w4.heap.size 1 A n (strs ss) := (Hr'.out.below HB4.out).more (by omega)
      have hrm4 : Reads w4 w4.heap.size 1 (some ⟨gm, 0, none⟩) (n + 1) (strs (ss ++ [markS])) := (hrm.below hb4).more (by omega)
      have HXW : Hid (∀ q, (Value.slice Ax m cx).ownBlock = some q → q < wr.heap.size) := fun q hq => (HX.out.lt q hq).2
      have HX4 := Lib.hid (own_below HX.out hbr4 (fun q hq => (HX.out.lt q hq).2))
      have HK4 := Lib.hid (HK.out.below hbr4)
      have HYL : Hid (∀ q, (Value.slice Ay m cy).ownBlock = some q → wr.heap.size ≤ q) := fun q hq => by have := (hy.lt q hq).1; omega
      have HY4 := Lib.hid (own_base0 hy)
      have HRL := Lib.hid hrl; have HRM := Lib.hid hrm4
      clear hb3 hb4 hrm hy hrl hrm4 HX HB hbr4
      go_wp2_with fail
      refine (CC.out w4 _ _ _ (lent_first HN.out HRM.out)).mono ?_
      rintro e w' ⟨rfl, rfl⟩
      go_wp2_with fail
      refine (CJ.out w4 _ HRL.out).mono ?_
      rintro e w' ⟨rfl, rfl⟩
      go_wp2_with fail
      refine (CR.out w4).mono ?_
      rintro e w' ⟨rfl, rfl⟩
      go_wp2_with fail
      refine (CF.out w4 _ _ (lent_first HN.out HRM.out)).mono ?_
      rintro e w5 ⟨rfl, hb5⟩
      have hz5 := hb5.size
      have HB5 := Lib.hid hb5
      clear hb5
      go_wp2_with fail
      refine (CG.out w5 ((HRL.out.below HB5.out).more hz5)).mono ?_
      rintro e w6 ⟨rfl, hb6⟩
      have hz6 := hb6.size
      have HB6 : Hid (Below w4.heap.size w4 w6) := HB5.out.trans (hb6.mono hz5)
      clear hb6 HB5
      have hx6 := own_below HX4.out HB6.out (fun q hq => (HX4.out.lt q hq).2)
      have hy6 := own_below HY4.out HB6.out (fun q hq => (HY4.out.lt q hq).2)
      go_wp2_with fail
      refine (same_self T Ax Ay cx cy m w6.heap.size HM.out w6 (Reads.of_own hx6) (Reads.of_own hy6) (by omega)).mono ?_
      rintro e w7 ⟨rfl, hb7⟩
      have hz7 := hb7.size
      have HB7 : Hid (Below w4.heap.size w4 w7) := HB6.out.trans (hb7.mono (by omega))
      clear hb7 HB6 hx6 hy6
      go_wp2_with fail
      refine (CT.out w7 gm cm hcm ((HRM.out.below HB7.out).more (by omega)) ((HRL.out.below HB7.out).more (by omega)) hcm2).mono ?_
      rintro e w8 ⟨rfl, hb8⟩
      have hz8 := hb8.size
      have HB8 : Hid (Below w4.heap.size w4 w8) := HB7.out.trans (hb8.mono (by omega))
      clear hb8 HB7
      have HK8 := Lib.hid (HK4.out.below HB8.out)
      have HY8 := Lib.hid (own_below HY4.out HB8.out (fun q hq => (HY4.out.lt q hq).2))
      have HX8 := Lib.hid (own_below HX4.out HB8.out (fun q hq => (HX4.out.lt q hq).2))
      have hyb : ∀ q, (Value.slice Ay m cy).ownBlock = some q → q ∉ bkBlocks w1.heap.size tv wv L := fun q hq e => by
        have h1 := HYL.out q hq
        have h2 := HK.out.there q e
        omega
      have HT9 : Hid (Calls Tryz.prog 16 #[.pointer (some ⟨w1.heap.size, 0, none⟩), .slice Ay m cy] w8 fun e w' => e = .returned (.tuple #[]) ∧ ∃ tv' wv' mv, BkAt w1.heap.size tv' wv' (L ++ [⟨.slice Ay m cy, T, mv, T⟩]) w' ∧ Mv ((Value.slice Ay m cy).ownBlock.toList ++ bkBlocks w1.heap.size tv wv L) (bkBlocks w1.heap.size tv' wv' (L ++ [⟨.slice Ay m cy, T, mv, T⟩])) w8 w') :=
        texts_add w1.heap.size tv wv L w8 HK8.out (by omega) (.slice Ay m cy) T (by rw [HM.out]; exact HY8.out) (by rw [HM.out]; omega) hyb
      clear hyb
      go_wp2_with fail
      refine HT9.out.mono ?_
      rintro e w9 ⟨rfl, tv', wv', mv, hk9, hm9⟩
      have HK9 := Lib.hid hk9; have HM9 := Lib.hid hm9
      have hz9 := hm9.size
      clear hk9 hm9 HT9
      go_wp2
      go_roundw
      case rel =>
        refine ⟨k + 1, tv', wv', _, hlt, by go_num, by simp [hL], HK9.out, ?_, ?_, ?_, ?_, ?_⟩
        · intro r hr
          rcases List.mem_append.1 hr with hr | hr
          · exact HC.out r hr
          · obtain rfl := List.mem_singleton.1 hr
            exact ⟨rfl, by show T.length ≤ _; rw [HM.out]; omega⟩
        · intro q hq
          rcases HM9.out.link q hq with h | h
          · rcases List.mem_append.1 h with h | h
            · have := HYL.out q (by simpa using h); omega
            · exact HBL.out q h
          · omega
        · exact own_keep' HX8.out (fun q hq => HM9.out.block q (HX8.out.lt q hq).2 (fun e => by
            rcases List.mem_append.1 e with h | h
            · have h1 := HYL.out q (by simpa using h)
              have h2 := HXW.out q hq
              omega
            · exact HXN.out q hq h))
        · intro q hq e
          rcases HM9.out.link q e with h | h
          · rcases List.mem_append.1 h with h | h
            · have h1 := HYL.out q (by simpa using h)
              have h2 := HXW.out q hq
              omega
            · exact HXN.out q hq h
          · have h2 := (HX8.out.lt q hq).2; omega
        · refine HB4.out.trans ?_
          refine (HB8.out.mono (by omega)).trans ?_
          exact HM9.out.below (fun q hq => by
            rcases List.mem_append.1 hq with h | h
            · have := HYL.out q (by simpa using h); omega
            · have := HBL.out q h; omega) (by omega)
      case measure => simp [intOf]; omega
    · have hk2 : k = 2 := by omega
      go_wp2_with fail
      refine (alive4_any _).mono ?_
      rintro e w3 ⟨rfl, hb3⟩
      have hz3 := hb3.size
      go_wp2_with fail
      refine (apart_any w1.heap.size tv wv L w3 (HK.out.below hb3) (fun r hr => (HC.out r hr).1) (fun r hr => (HC.out r hr).2)).mono ?_
      rintro e w4 ⟨rfl, hm4⟩
      have HM4 := Lib.hid hm4
      clear hm4
      go_wp2
      go_ret
      exact ⟨rfl, (HB.out.trans (hb3.mono hzr)).trans (HM4.out.below (fun q hq => by have := HBL.out q hq; omega) (by omega))⟩
end Go.Proofs.YtfejelcjklmchaaGreat
