/-
  The document's sum (complineref1): Frame and Scan as contracts.
  Conditions: what is framed takes at most 10^9 bytes together; bytes of at most 10^9.
-/
import Derived.Test.YtfejelcjklmchaaGreatSum3
import Derived.Test.YtfejelcjklmchaaGreatRs1
namespace Go.Proofs.YtfejelcjklmchaaGreat
open Go.RowKit
attribute [local go_sem ↓] Go.wp_at_zero Go.wp_at_succ
set_option maxRecDepth 100000

set_option maxHeartbeats 2000000 in
theorem rframe_any (ss : List ByteArray) (A : Option Addr) (c B : Nat) (w : World) (hr : Reads w B 1 A ss.length (strs ss)) (hB : B ≤ w.heap.size) (hN : total ss + 8 * ss.length ≤ 1000000000) :
    Calls Tryz.prog 13 #[.slice A ss.length c] w fun e w' => e = .returned (.string ⟨(Sum.frames (datas ss)).toArray⟩) ∧ Below w.heap.size w w' := by
  generalize hn : ss.length = n at *
  have Hn := Lib.hid hn; clear hn
  go_enter Tryz.func13, Tryz.ntmps13
  go_wp2
  go_loopw [3, 4] (fun x i wr => ∃ (k : Nat) (b : ByteArray), k ≤ n ∧ i = .int .i64 k ∧ x = .string b ∧ Hid (b.data.toList = Sum.frames (datas (ss.take k))) ∧ Below w.heap.size w wr) (fun _ i _ => n - (intOf i).toNat)
  case atStart => exact ⟨0, ⟨#[]⟩, Nat.zero_le _, rfl, rfl, rfl, Below.refl _ _⟩
  case round =>
    obtain ⟨k, b, hk, rfl, rfl, HBB, hb⟩ := hrel
    have hz := hb.size
    by_cases hlt : k < n
    · obtain ⟨ad, s, rfl, hbl, hsk, hc0⟩ := str_at hr hlt
      have hc : wr.cell? (ad.add k) = some (.string s) := by rw [hb.cell (by rw [block_of_add]; omega)]; exact hc0
      have hst : s.size ≤ total ss := size_le_total (List.mem_of_getElem? hsk)
      have Hsk := Lib.hid hsk; clear hsk hc0
      have hbs : b.size ≤ total ss + 8 * n := by
        have h1 := HBB.out
        have h2 : b.size = (Sum.frames (datas (ss.take k))).length := by rw [← h1, len_data]
        rw [h2, Sum.frames_length, datas_total]
        have := total_take_le ss k
        have h2 : (datas (ss.take k)).length ≤ n := by simp [datas]; have := Hn.out; omega
        omega
      have hst1 : s.size ≤ 1000000000 := by omega
      obtain ⟨F1, hF1⟩ : ∃ F : ByteArray, F = ⟨(Sum.four s.size).toArray⟩ := ⟨_, rfl⟩
      obtain ⟨F2, hF2⟩ : ∃ F : ByteArray, F = ⟨(Sum.four (Sum.crc s.data.toList)).toArray⟩ := ⟨_, rfl⟩
      have f1 : F1.size = 4 := by rw [hF1]; rfl
      have f2 : F2.size = 4 := by rw [hF2]; rfl
      have hbl2 : ad.block < wr.heap.size := by omega
      have HBL : ∀ W w2, Below wr.heap.size wr W → Below W.heap.size W w2 → Below wr.heap.size wr w2 ∧ w2.cell? (ad.add k) = some (.string s) := fun W w2 h1 h2 => by
        have h3 := h1.trans ⟨h2.os, h2.tape, h2.output, h2.size, fun g hg => h2.block g (Nat.lt_of_lt_of_le hg h1.size)⟩
        exact ⟨h3, (h3.cell (by rw [block_of_add]; exact hbl2)).trans hc⟩
      have C1 : ∀ W, Below wr.heap.size wr W → Calls Tryz.prog 25 #[.int .i64 s.size] W fun e w' => e = .returned (.string F1) ∧ Below wr.heap.size wr w' ∧ w'.cell? (ad.add k) = some (.string s) := fun W hW => by rw [hF1]; exact (rfour_any s.size (by omega) W).mono fun e w' h => ⟨h.1, HBL W w' hW h.2⟩
      obtain ⟨u, hu⟩ : ∃ u, u = Sum.crc s.data.toList := ⟨_, rfl⟩
      have hul : u < 4294967296 := by rw [hu]; exact Sum.crc_lt _
      have C2 : ∀ W, Calls Tryz.prog 10 #[.string s] W fun e w' => e = .returned (.int .i64 u) ∧ W = w' := fun W => by rw [hu]; exact rcrc_any s s.data.toList rfl (by omega) W
      have C3 : ∀ W, Below wr.heap.size wr W → Calls Tryz.prog 25 #[.int .i64 u] W fun e w' => e = .returned (.string F2) ∧ Below wr.heap.size wr w' ∧ w'.cell? (ad.add k) = some (.string s) := fun W hW => by rw [hF2, ← hu]; exact (rfour_any u hul W).mono fun e w' h => ⟨h.1, HBL W w' hW h.2⟩
      have HC1 := Lib.hid C1; have HC2 := Lib.hid C2; have HC3 := Lib.hid C3
      have HF1 := Lib.hid hF1; have HF2 := Lib.hid hF2
      have g1 : b.size + F1.size ≤ 9223372036854775807 := by omega
      have g2 : (b ++ F1).size + F2.size ≤ 9223372036854775807 := by rw [ByteArray.size_append']; omega
      have g3 : (b ++ F1 ++ F2).size + s.size ≤ 9223372036854775807 := by rw [ByteArray.size_append', ByteArray.size_append']; omega
      have g4 : b.size + F1.size + F2.size ≤ 9223372036854775807 := by omega
      have g5 : b.size + F1.size + F2.size + s.size ≤ 9223372036854775807 := by omega
      have hd0 : Below wr.heap.size wr wr.drew := (Below.refl _ _).drew
      have HB := Lib.hid hb
      clear C1 C2 C3 hr hF1 hF2 hu f1 f2 hb hbs hst hst1 HBL
      go_wp2
      go_region_held (fun W => W.cell? (ad.add k) = some (.string s))
        (first | assumption)
        (first
          | (go_at_call 10; (with_reducible refine (HC2.out _).mono ?_); rintro e w2 ⟨rfl, rfl⟩)
          | (go_at_call 25; first
              | ((with_reducible refine (HC1.out _ (by assumption)).mono ?_); rintro e w2 ⟨rfl, hbw, hcw⟩)
              | ((with_reducible refine (HC3.out _ (by assumption)).mono ?_); rintro e w2 ⟨rfl, hbw, hcw⟩)))
      all_goals
       have HBW : Hid (Below w.heap.size w _) := HB.out.trans (Below.mono hbw hz)
       clear hbw hcw
       go_wp2
       go_roundw
       case rel =>
        refine ⟨k + 1, b ++ F1 ++ F2 ++ s, by omega, by go_num, rfl, ?_, HBW.out⟩
        show _ = _
        rw [datas_take_snoc Hsk.out, Sum.frames_append, data_append, data_append, data_append, HBB.out, HF1.out, HF2.out, data_mk, data_mk]
        simp [Sum.frames, Sum.frame]
       case measure => simp [intOf]; omega
    · go_wp2
      go_ret
      have h := HBB.out
      rw [List.take_of_length_le (by have := Hn.out; omega)] at h
      exact ⟨ret_string (of_data (by rw [h])), hb⟩
set_option maxHeartbeats 2000000 in
theorem rscan_any (s : ByteArray) (w : World) (hN : s.size ≤ 1000000000) :
    Calls Tryz.prog 6 #[.string s] w fun e w' => ∃ A c, e = .returned (.tuple #[.slice A (Sum.scan s.data.toList).1.length c, .int .i64 (Sum.scan s.data.toList).2]) ∧
      w'.ownsRow w.heap.size 9 1 (.slice A (Sum.scan s.data.toList).1.length c) (Sum.scan s.data.toList).1.length (strs (texts (Sum.scan s.data.toList).1)) ∧ Below w.heap.size w w' := by
  obtain ⟨i0, hi, hz0, hz1, hz2⟩ := info_parts info_string
  go_enter Tryz.func6, Tryz.ntmps6
  go_wp2
  go_loopw [4, 5] (fun o i wr => ∃ (l : List (List UInt8)) (k : Nat), k ≤ s.size ∧ 8 * l.length ≤ k ∧ i = .int .i64 k ∧ Hid (Sum.scan s.data.toList = (l ++ (Sum.scan (s.data.toList.drop k)).1, k + (Sum.scan (s.data.toList.drop k)).2)) ∧
    (∃ A c, o = .slice A l.length c) ∧ wr.ownsRow w.heap.size 9 1 o l.length (strs (texts l)) ∧ Below w.heap.size w wr) (fun _ i _ => s.size - (intOf i).toNat)
  case atStart => exact ⟨[], 0, Nat.zero_le _, by simp, rfl, by simp [Hid], ⟨none, 0, rfl⟩, ⟨rfl, .inl ⟨rfl, rfl⟩⟩, Below.refl _ _⟩
  case round =>
    obtain ⟨l, k, hk, hlk, rfl, HS, ⟨A, c, rfl⟩, hown, hb⟩ := hrel
    have hsz := hb.size
    by_cases h8 : k + 8 ≤ s.size
    · have hn1 : (s.extract k s.size).size = s.size - k := extract_size s k s.size (Nat.le_refl _)
      go_wp2_with fail
      refine (rfours_any (s.extract k s.size) (by rw [hn1]; omega) _ rfl _).mono ?_
      rintro e w1 ⟨rfl, q1, rfl⟩
      rw [extract_tail]
      generalize hnum : Sum.num (s.data.toList.drop k) = n
      have Hnum := Lib.hid hnum
      have hnlt : n < 4294967296 := by rw [← hnum]; exact Sum.num_lt _
      clear hnum hn1
      have hb1 : Below w.heap.size w (wr.drewN q1) := below_drewN hb q1
      have hown1 : (wr.drewN q1).ownsRow w.heap.size 9 1 (.slice A l.length c) l.length (strs (texts l)) := hown
      clear hb hown
      generalize wr.drewN q1 = w1 at *
      have hsz1 := hb1.size
      have hnone : ∀ _h : ¬ (8 ≤ (s.data.toList.drop k).length ∧ n ≤ 60000 ∧ n ≤ (s.data.toList.drop k).length - 8 ∧ Sum.crc (((s.data.toList.drop k).drop 8).take n) = Sum.num ((s.data.toList.drop k).drop 4)), Sum.scan s.data.toList = (l, k) := by
        intro h
        have h1 : Sum.scan (s.data.toList.drop k) = ([], 0) := by
          apply Sum.scan_none
          unfold Sum.head
          rw [Hnum.out, if_neg h]
        have h2 := HS.out
        rw [h1] at h2
        simpa using h2
      have Hnone := Lib.hid hnone; clear hnone
      have hdl : (s.data.toList.drop k).length = s.size - k := by rw [List.length_drop, len_data]
      have Hdl := Lib.hid hdl; clear hdl
      by_cases hA : 60000 < n
      · have hA' : decide ((60000 : Int) < n) = true := by simp; omega
        go_wp2
        go_ret2
        have hfin := Hnone.out (by omega)
        rw [hfin]
        exact ⟨A, c, rfl, hown1, hb1⟩
      · have hA' : decide ((60000 : Int) < n) = false := by simp; omega
        by_cases hB : s.size - (k + 8) < n
        · have hB' : decide ((s.size : Int) - k - 8 < n) = true := by simp; omega
          go_wp2
          go_ret2
          have hfin := Hnone.out (by rw [Hdl.out]; omega)
          rw [hfin]
          exact ⟨A, c, rfl, hown1, hb1⟩
        · have hB' : decide ((s.size : Int) - k - 8 < n) = false := by simp; omega
          have b1 : (0 : Int) ≤ (k : Int) + 8 := by omega
          have b2 : (k : Int) + 8 ≤ (k : Int) + 8 + (n : Int) := by omega
          have b3 : (k : Int) + 8 + (n : Int) ≤ (s.size : Int) := by omega
          have b4 : (k : Int) + 4 ≤ (s.size : Int) := by omega
          have b5 : (0 : Int) ≤ (k : Int) + 4 := by omega
          have x1 : IntKind.i64.wrap ((k : Int) + 8 + n) = (k : Int) + 8 + n := IntWalk.i64_in _ (by omega)
          have x2 : IntKind.i64.wrap ((k : Int) + 4) = (k : Int) + 4 := IntWalk.i64_in _ (by omega)
          have x3 : IntKind.i64.wrap ((s.size : Int) - (k : Int) - 8) = (s.size : Int) - (k : Int) - 8 := IntWalk.i64_in _ (by omega)
          have n1 : ((k : Int) + 8).toNat = k + 8 := by omega
          have n2 : ((k : Int) + 8 + (n : Int)).toNat = k + 8 + n := by omega
          have n3 : ((k : Int) + 4).toNat = k + 4 := by omega
          obtain ⟨t, Ht⟩ : ∃ t, Hid (t = s.extract (k + 8) (k + 8 + n)) := ⟨_, rfl⟩
          have hts : t.size = n := by rw [Ht.out, extract_size _ _ _ (by omega)]; omega
          have htd : ((s.data.toList.drop k).drop 8).take n = t.data.toList := by
            rw [Ht.out, extract_data', List.drop_drop, show k + 8 + n - (k + 8) = n from by omega]
          have Htd := Lib.hid htd; clear htd
          have Hts := Lib.hid hts; clear hts
          obtain ⟨u, Hu⟩ : ∃ u, Hid (u = Sum.num ((s.data.toList.drop k).drop 4)) := ⟨_, rfl⟩
          obtain ⟨v, Hv⟩ : ∃ v, Hid (v = Sum.crc t.data.toList) := ⟨_, rfl⟩
          by_cases hC : v = u
          · have HC := Lib.hid hC; clear hC
            have hC' : ((v : Int) != (u : Int)) = false := by rw [HC.out]; simp
            go_wp2
            go_region_held3 (fun _ => True) (trivial) (first
              | (go_at_call 10; refine (rcrc_any (s.extract (k + 8) (k + 8 + n)) t.data.toList (by rw [← Ht.out]) (by rw [← Ht.out, Hts.out]; omega) _).mono ?_; rw [← Hv.out]; rintro e w' ⟨rfl, rfl⟩)
              | (go_at_call 19; refine (rfours_any (s.extract (k + 4) s.size) (by rw [extract_size _ _ _ (Nat.le_refl _)]; omega) ((s.data.toList.drop k).drop 4) (by rw [extract_tail, List.drop_drop]) _).mono ?_; rw [← Hu.out]; rintro e w' ⟨rfl, q2, rfl⟩))
            have hbw2 : Below w.heap.size w (w1.drewN (1 + q2)) := below_drewN hb1 _
            have hown2 : (w1.drewN (1 + q2)).ownsRow w.heap.size 9 1 (.slice A l.length c) l.length (strs (texts l)) := hown1
            have hll : l.length ≤ 1000000000 := by omega
            have hwz : w.heap.size ≤ (w1.drewN (1 + q2)).heap.size := by show _ ≤ w1.heap.size; omega
            generalize w1.drewN (1 + q2) = w2 at *
            clear hb1 hown1 hsz1
            go_wp2_with (at_builtin; refine wpList_append_own _ rfl _ _ 22 rfl w.heap.size 9 i0 (.string ⟨#[]⟩) 1 16 Tryz.underlying22 hi hz0 hz1 hz2 rfl (by decide) _ _ _ rfl (hown2.alloc _) ⟨w2.heap.size, 0, none⟩ 1 1 [.string (s.extract (k + 8) (k + 8 + n))] rfl rfl ?c1 ?c2 ?c3 ?c4 ?c5 ?_)
            case c1 => exact cell_one_new _ _ _
            case c2 => simp [Value.oneCell']
            case c3 => unfold maxLen; omega
            case c4 => omega
            case c5 => simp; omega
            intro v3 w3 hown3 hgrow3 _
            rw [← Ht.out] at hown3
            obtain ⟨A3, c3, rfl⟩ : ∃ A3 c3, v3 = .slice A3 (l.length + 1) c3 := by
              rcases hown3.2 with ⟨_, h0⟩ | ⟨g, cap, cur, hv, _⟩
              · omega
              · exact ⟨_, _, hv⟩
            go_wp2
            go_roundw
            case rel =>
              refine ⟨l ++ [t.data.toList], k + 8 + n, by omega, by simp; omega, by go_num, ?_, ⟨A3, c3, by simp⟩, ?_, ?_⟩
              · show _ = _
                have hh : Sum.head (s.data.toList.drop k) = some t.data.toList := by
                  unfold Sum.head
                  rw [Hnum.out, Htd.out, Hdl.out, if_pos ⟨by omega, by omega, by omega, by rw [← Hv.out, ← Hu.out]; exact HC.out⟩]
                have h1 := HS.out
                rw [Sum.scan_some hh, List.drop_drop, len_data, Hts.out] at h1
                rw [h1, show k + (8 + n) = k + 8 + n from by omega]
                simp [Nat.add_assoc]
              · have e1 : strs (texts (l ++ [t.data.toList])) = strs (texts l) ++ [.string t] := by simp [strs, texts]
                rw [e1]
                simpa using hown3
              · exact (hbw2.alloc (by omega) _).grown hgrow3 (by simp; omega) (fun g hg => (hown2.lt g hg).1)
            case measure => simp [intOf]; omega
          · have HC := Lib.hid hC
            have hC' : ((v : Int) != (u : Int)) = true := by simp; omega
            clear hC
            go_wp2
            go_region_held3 (fun _ => True) (trivial) (first
              | (go_at_call 10; refine (rcrc_any (s.extract (k + 8) (k + 8 + n)) t.data.toList (by rw [← Ht.out]) (by rw [← Ht.out, Hts.out]; omega) _).mono ?_; rw [← Hv.out]; rintro e w' ⟨rfl, rfl⟩)
              | (go_at_call 19; refine (rfours_any (s.extract (k + 4) s.size) (by rw [extract_size _ _ _ (Nat.le_refl _)]; omega) ((s.data.toList.drop k).drop 4) (by rw [extract_tail, List.drop_drop]) _).mono ?_; rw [← Hu.out]; rintro e w' ⟨rfl, q2, rfl⟩))
            go_wp2
            go_ret2
            have hfin := Hnone.out (by rw [Hdl.out, Htd.out, ← Hu.out, ← Hv.out]; rintro ⟨_, _, _, h⟩; exact HC.out h)
            rw [hfin]
            exact ⟨A, c, rfl, hown1, below_drewN hb1 _⟩
    · go_wp2
      go_ret2
      have hlt : (s.data.toList.drop k).length < 8 := by rw [List.length_drop, len_data]; omega
      have h2 := HS.out
      rw [Sum.scan_short hlt] at h2
      simp only [List.append_nil, Nat.add_zero] at h2
      rw [h2]
      exact ⟨A, c, rfl, hown, hb⟩
end Go.Proofs.YtfejelcjklmchaaGreat
