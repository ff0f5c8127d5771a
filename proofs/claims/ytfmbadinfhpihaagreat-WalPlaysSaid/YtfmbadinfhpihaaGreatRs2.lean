/-
  The document's sum (complineref1): Frame and Scan as contracts.
  Conditions: what is framed takes at most 10^9 bytes together; bytes of at most 10^9.
-/
import Derived.Test.YtfmbadinfhpihaaGreatSum3
set_option linter.unusedVariables false
set_option linter.unusedSimpArgs false
namespace Go.Proofs.YtfmbadinfhpihaaGreat.Sm
open Go.RowKit

theorem i64_xor_nat (a b : Nat) (ha : a < 9223372036854775808) (hb : b < 9223372036854775808) : bits .xor .i64 (a : Int) (b : Int) = ((a ^^^ b : Nat) : Int) := by
  have hx : a ^^^ b < 2 ^ 63 := Nat.xor_lt_two_pow (by omega) (by omega)
  show IntKind.i64.wrap ((BitVec.ofInt 64 (a : Int) ^^^ BitVec.ofInt 64 (b : Int)).toNat : Int) = _
  rw [BitVec.toNat_xor, ofInt_i64' a ha, ofInt_i64' b hb, IntKind.wrap_i64]
  omega
theorem rfour_any (n : Nat) (hn : n < 4294967296) (w : World) :
    Calls Tryz.prog 169 #[.int .i64 n] w fun e w' => e = .returned (.string ⟨(Sum.four n).toArray⟩) ∧ Below w.heap.size w w' := by
  have hcv : ∀ W : World, (convert 48 9 (.slice (some ⟨W.heap.size, 0, none⟩) 4 4)).run Tryz.prog (W.alloc (.cells #[.int .u8 ((n : Int) / 16777216), .int .u8 ((n : Int) / 65536 % 256), .int .u8 ((n : Int) / 256 % 256), .int .u8 ((n : Int) % 256)] 5)) =
      .ok (.string ⟨(Sum.four n).toArray⟩) (W.alloc (.cells #[.int .u8 ((n : Int) / 16777216), .int .u8 ((n : Int) / 65536 % 256), .int .u8 ((n : Int) / 256 % 256), .int .u8 ((n : Int) % 256)] 5)) := by
    intro W
    refine run_bytes_string (l := Sum.four n) (B := W.heap.size + 1) _ Tryz.underlying48 Tryz.underlying5 Tryz.underlying9 rfl ⟨rfl, fun _ => ⟨_, rfl, by simp, fun j u hu => ?_⟩⟩
    have hb : Lib.byteCells (Sum.four n) = [.int .u8 ((n : Int) / 16777216), .int .u8 ((n : Int) / 65536 % 256), .int .u8 ((n : Int) / 256 % 256), .int .u8 ((n : Int) % 256)] := by
      simp only [Lib.byteCells, Sum.four, List.map_cons, List.map_nil, UInt8.toNat_ofNat', List.cons.injEq, Value.int.injEq, true_and, and_true]
      refine ⟨?_, ?_, ?_, ?_⟩ <;> omega
    rw [hb] at hu
    match j, hu with
    | 0, hu => simp at hu; subst hu; simp [go_sem]
    | 1, hu => simp at hu; subst hu; simp [go_sem]
    | 2, hu => simp at hu; subst hu; simp [go_sem]
    | 3, hu => simp at hu; subst hu; simp [go_sem]
    | j + 4, hu => simp at hu
  have h0 : (n : Int) / 16777216 ≤ 255 := by omega
  go_enter Tryz.func169, Tryz.ntmps169
  go_wp2
  go_ret
  exact ⟨rfl, (Below.refl _ _).alloc (Nat.le_refl _) _⟩
theorem rfours_any (s : ByteArray) (h4 : 4 ≤ s.size) (l : List UInt8) (hl : s.data.toList = l) (w : World) :
    Calls Tryz.prog 221 #[.string s] w fun e w' => e = .returned (.int .i64 (Sum.num l)) ∧ ∃ q, w' = w.drewN q := by
  subst hl
  have h0 : 0 < s.size := by omega
  have h1 : (1 : Int) < s.size := by omega
  have h2 : (2 : Int) < s.size := by omega
  have h3 : (3 : Int) < s.size := by omega
  have b0 := s[0].toNat_lt
  have b1 := s[1].toNat_lt
  have b2 := s[2].toNat_lt
  have b3 := s[3].toNat_lt
  have hnum : Sum.num s.data.toList = s[0].toNat * 16777216 + s[1].toNat * 65536 + s[2].toNat * 256 + s[3].toNat := by
    have e : s.data.toList = s[0] :: s[1] :: s[2] :: s[3] :: s.data.toList.drop 4 := by
      have e0 : s.data.toList[0]? = some s[0] := byte_at s (by omega)
      have e1 : s.data.toList[1]? = some s[1] := byte_at s (by omega)
      have e2 : s.data.toList[2]? = some s[2] := byte_at s (by omega)
      have e3 : s.data.toList[3]? = some s[3] := byte_at s (by omega)
      rw [← drop_cons e3, ← drop_cons e2, ← drop_cons e1, ← drop_cons e0]
      rfl
    conv => lhs; rw [e]
    rfl
  obtain ⟨p0, hp0⟩ : ∃ p : Nat, p = s[0].toNat * 16777216 := ⟨_, rfl⟩
  obtain ⟨p1, hp1⟩ : ∃ p : Nat, p = s[1].toNat * 65536 := ⟨_, rfl⟩
  obtain ⟨p2, hp2⟩ : ∃ p : Nat, p = s[2].toNat * 256 := ⟨_, rfl⟩
  obtain ⟨q1, hq1⟩ : ∃ p : Nat, p = p0 + p1 := ⟨_, rfl⟩
  obtain ⟨q2, hq2⟩ : ∃ p : Nat, p = q1 + p2 := ⟨_, rfl⟩
  obtain ⟨q3, hq3⟩ : ∃ p : Nat, p = q2 + s[3].toNat := ⟨_, rfl⟩
  rw [← hp0, ← hp1, ← hp2, ← hq1, ← hq2, ← hq3] at hnum
  have HN := Lib.hid hnum; clear hnum
  have e0 : IntKind.i64.wrap ↑s[0].toNat = s[0].toNat := IntWalk.i64_in _ (by omega)
  have e0' : IntKind.i64.wrap (↑s[0].toNat * 16777216) = (p0 : Int) := (IntWalk.i64_in _ (by omega)).trans (by omega)
  have e1 : IntKind.i64.wrap ↑s[1].toNat = s[1].toNat := IntWalk.i64_in _ (by omega)
  have e1' : IntKind.i64.wrap (↑s[1].toNat * 65536) = (p1 : Int) := (IntWalk.i64_in _ (by omega)).trans (by omega)
  have e2 : IntKind.i64.wrap ↑s[2].toNat = s[2].toNat := IntWalk.i64_in _ (by omega)
  have e2' : IntKind.i64.wrap (↑s[2].toNat * 256) = (p2 : Int) := (IntWalk.i64_in _ (by omega)).trans (by omega)
  have e3 : IntKind.i64.wrap ↑s[3].toNat = s[3].toNat := IntWalk.i64_in _ (by omega)
  have o1 : (p0 : Int) + (p1 : Int) = (q1 : Int) := by omega
  have o2 : (q1 : Int) + (p2 : Int) = (q2 : Int) := by omega
  have o3 : (q2 : Int) + (s[3].toNat : Int) = (q3 : Int) := by omega
  have r1 : q1 < 4294967296 := by omega
  have r2 : q2 < 4294967296 := by omega
  have r3 : q3 < 4294967296 := by omega
  clear hp0 hp1 hp2 hq1 hq2 hq3
  go_enter Tryz.func221, Tryz.ntmps221
  go_wp2
  go_quiet (fail)
  go_wp2
  go_ret
  refine ⟨ret_int ?_, _, rfl⟩
  rw [HN.out]
set_option maxHeartbeats 1000000 in
theorem rcrc_any (s : ByteArray) (l : List UInt8) (hl : s.data.toList = l) (hs : s.size ≤ 9223372036854775807) (w : World) :
    Calls Tryz.prog 170 #[.string s] w fun e w' => e = .returned (.int .i64 (Sum.crc l)) ∧ w = w' := by
  subst hl
  go_enter Tryz.func170, Tryz.ntmps170
  go_wp2
  go_loop [3, 4] (fun x i => ∃ (j Y : Nat), j ≤ s.size ∧ i = .int .i64 j ∧ x = .int .i64 Y ∧ Y < 4294967296 ∧ Hid (Y = Sum.crcFrom 4294967295 (s.data.toList.take j))) (fun _ i => s.size - (intOf i).toNat)
  case atStart => exact ⟨0, 4294967295, Nat.zero_le _, rfl, rfl, by omega, rfl⟩
  case round =>
    obtain ⟨j, Y, hj, rfl, rfl, hY, HY⟩ := hrel
    by_cases hjt : j < s.size
    · have hb := s[j].toNat_lt
      obtain ⟨Z, hZ, hZ2, HZ⟩ : ∃ Z : Nat, bits .xor .i64 (Y : Int) (s[j].toNat : Int) = (Z : Int) ∧ Z < 4294967296 ∧ Hid (Z = Y ^^^ s[j].toNat) :=
        ⟨_, i64_xor_nat Y s[j].toNat (by omega) (by omega), Sum.xor_lt hY (by omega), rfl⟩
      have hw1 : IntKind.i64.wrap ↑s[j].toNat = s[j].toNat := IntWalk.i64_in _ (by omega)
      go_wp2
      go_loop [3, 5] (fun x i => ∃ (m V : Nat), m ≤ 8 ∧ i = .int .i64 m ∧ x = .int .i64 V ∧ V < 4294967296 ∧ Hid (V = Sum.bitN m Z)) (fun _ i => 8 - (intOf i).toNat)
      case atStart => exact ⟨0, Z, Nat.zero_le _, rfl, rfl, hZ2, rfl⟩
      case round =>
        obtain ⟨m, V, hm, rfl, rfl, hV, HV⟩ := hrel
        clear hZ
        by_cases hmt : m < 8
        · have hV2 := Sum.bit_lt hV
          by_cases ho : V % 2 = 1
          · obtain ⟨T, hT, hT2, HT⟩ : ∃ T : Nat, bits .xor .i64 ((V : Int) / 2) 3988292384 = (T : Int) ∧ T < 4294967296 ∧ Hid (T = Sum.bit V) :=
              ⟨_, i64_xor_nat (V / 2) 3988292384 (by omega) (by decide), Sum.xor_lt (by omega) (by decide), by simp [Hid, Sum.bit, ho]⟩
            have ho1 : (V : Int) % 2 = 1 := by omega
            clear ho
            go_wp2
            go_round
            case rel => exact ⟨m + 1, T, by omega, by go_num, rfl, hT2, by show _ = _; rw [HT.out, HV.out]; rfl⟩
            case measure => simp [intOf]; omega
          · have ho' : V % 2 = 0 := by omega
            have ho1 : (V : Int) % 2 = 0 := by omega
            have hbit : Sum.bit V = V / 2 := by simp [Sum.bit, ho']
            have Hbit := Lib.hid hbit; clear hbit ho ho'
            go_wp2
            go_round
            case rel => exact ⟨m + 1, V / 2, by omega, by go_num, rfl, by omega, by show _ = _; rw [← Hbit.out, HV.out]; rfl⟩
            case measure => simp [intOf]; omega
        · go_wp2
          go_round
          case rel =>
            refine ⟨j + 1, V, by omega, by go_num, rfl, hV, ?_⟩
            show _ = _
            rw [take_snoc (byte_at s hjt), Sum.crcFrom_append, ← HY.out, HV.out, show m = 8 from by omega, HZ.out]
            rfl
          case measure => simp [intOf]; omega
    · go_wp2
      go_ret
      refine ⟨ret_int ?_, rfl⟩
      have h1 := HY.out
      rw [List.take_of_length_le (by rw [len_data]; omega)] at h1
      unfold Sum.crc
      rw [← h1]
      omega
end Go.Proofs.YtfmbadinfhpihaaGreat.Sm
namespace Go.Proofs.YtfmbadinfhpihaaGreat.Sm
open Go.RowKit
attribute [local go_sem ↓] Go.wp_at_zero Go.wp_at_succ
set_option maxRecDepth 100000

set_option maxHeartbeats 2000000 in
theorem rframe_any (ss : List ByteArray) (A : Option Addr) (c B : Nat) (w : World) (hr : Reads w B 1 A ss.length (strs ss)) (hB : B ≤ w.heap.size) (hN : total ss + 8 * ss.length ≤ 1000000000) :
    Calls Tryz.prog 74 #[.slice A ss.length c] w fun e w' => e = .returned (.string ⟨(Sum.frames (datas ss)).toArray⟩) ∧ Below w.heap.size w w' := by
  generalize hn : ss.length = n at *
  have Hn := Lib.hid hn; clear hn
  go_enter Tryz.func74, Tryz.ntmps74
  go_wp2
  go_loopw [3, 4] (fun x i wr => ∃ (k : Nat) (b : ByteArray), k ≤ n ∧ i = .int .i64 k ∧ x = .string b ∧ Hid (b.data.toList = Sum.frames (datas (ss.take k))) ∧ Below w.heap.size w wr) (fun _ i _ => n - (intOf i).toNat)
  case atStart => exact ⟨0, ⟨#[]⟩, Nat.zero_le _, rfl, rfl, rfl, Below.refl _ _⟩
  case round =>
    obtain ⟨k, b, hk, rfl, rfl, HBB, hb⟩ := hrel
    have hz := hb.size
    by_cases hlt : k < n
    · obtain ⟨ad, s, rfl, hbl, hsk, hc0⟩ := str_at hr hlt
      have hc : wr.cell? (ad.add k) = some (.string s) := by rw [hb.cell (by rw [block_of_add]; omega)]; exact hc0
      have hst : s.size ≤ total ss := size_le_total (List.mem_of_getElem? hsk)
      have Hsk := Lib.hid hsk; clear hsk hc0
      have hbs : b.size ≤ total ss + 8 * n := by
        have h1 := HBB.out
        have h2 : b.size = (Sum.frames (datas (ss.take k))).length := by rw [← h1, len_data]
        rw [h2, Sum.frames_length, datas_total]
        have := total_take_le ss k
        have h2 : (datas (ss.take k)).length ≤ n := by simp [datas]; have := Hn.out; omega
        omega
      have hst1 : s.size ≤ 1000000000 := by omega
      obtain ⟨F1, hF1⟩ : ∃ F : ByteArray, F = ⟨(Sum.four s.size).toArray⟩ := ⟨_, rfl⟩
      obtain ⟨F2, hF2⟩ : ∃ F : ByteArray, F = ⟨(Sum.four (Sum.crc s.data.toList)).toArray⟩ := ⟨_, rfl⟩
      have f1 : F1.size = 4 := by rw [hF1]; rfl
      have f2 : F2.size = 4 := by rw [hF2]; rfl
      have hbl2 : ad.block < wr.heap.size := by omega
      have HBL : ∀ W w2, Below wr.heap.size wr W → Below W.heap.size W w2 → Below wr.heap.size wr w2 ∧ w2.cell? (ad.add k) = some (.string s) := fun W w2 h1 h2 => by
        have h3 := h1.trans ⟨h2.os, h2.tape, h2.output, h2.size, fun g hg => h2.block g (Nat.lt_of_lt_of_le hg h1.size)⟩
        exact ⟨h3, (h3.cell (by rw [block_of_add]; exact hbl2)).trans hc⟩
      have C1 : ∀ W, Below wr.heap.size wr W → Calls Tryz.prog 169 #[.int .i64 s.size] W fun e w' => e = .returned (.string F1) ∧ Below wr.heap.size wr w' ∧ w'.cell? (ad.add k) = some (.string s) := fun W hW => by rw [hF1]; exact (rfour_any s.size (by omega) W).mono fun e w' h => ⟨h.1, HBL W w' hW h.2⟩
      obtain ⟨u, hu⟩ : ∃ u, u = Sum.crc s.data.toList := ⟨_, rfl⟩
      have hul : u < 4294967296 := by rw [hu]; exact Sum.crc_lt _
      have C2 : ∀ W, Calls Tryz.prog 170 #[.string s] W fun e w' => e = .returned (.int .i64 u) ∧ W = w' := fun W => by rw [hu]; exact rcrc_any s s.data.toList rfl (by omega) W
      have C3 : ∀ W, Below wr.heap.size wr W → Calls Tryz.prog 169 #[.int .i64 u] W fun e w' => e = .returned (.string F2) ∧ Below wr.heap.size wr w' ∧ w'.cell? (ad.add k) = some (.string s) := fun W hW => by rw [hF2, ← hu]; exact (rfour_any u hul W).mono fun e w' h => ⟨h.1, HBL W w' hW h.2⟩
      have HC1 := Lib.hid C1; have HC2 := Lib.hid C2; have HC3 := Lib.hid C3
      have HF1 := Lib.hid hF1; have HF2 := Lib.hid hF2
      have g1 : b.size + F1.size ≤ 9223372036854775807 := by omega
      have g2 : (b ++ F1).size + F2.size ≤ 9223372036854775807 := by rw [ByteArray.size_append']; omega
      have g3 : (b ++ F1 ++ F2).size + s.size ≤ 9223372036854775807 := by rw [ByteArray.size_append', ByteArray.size_append']; omega
      have g4 : b.size + F1.size + F2.size ≤ 9223372036854775807 := by omega
      have g5 : b.size + F1.size + F2.size + s.size ≤ 9223372036854775807 := by omega
      have hd0 : Below wr.heap.size wr wr.drew := (Below.refl _ _).drew
      have HB := Lib.hid hb
      clear C1 C2 C3 hr hF1 hF2 hu f1 f2 hb hbs hst hst1 HBL
      go_wp2
      go_region_held (fun W => W.cell? (ad.add k) = some (.string s))
        (first | assumption)
        (first
          | (go_at_call 170; (with_reducible refine (HC2.out _).mono ?_); rintro e w2 ⟨rfl, rfl⟩)
          | (go_at_call 169; first
              | ((with_reducible refine (HC1.out _ (by assumption)).mono ?_); rintro e w2 ⟨rfl, hbw, hcw⟩)
              | ((with_reducible refine (HC3.out _ (by assumption)).mono ?_); rintro e w2 ⟨rfl, hbw, hcw⟩)))
      all_goals
       have HBW : Hid (Below w.heap.size w _) := HB.out.trans (Below.mono hbw hz)
       clear hbw hcw
       go_wp2
       go_roundw
       case rel =>
        refine ⟨k + 1, b ++ F1 ++ F2 ++ s, by omega, by go_num, rfl, ?_, HBW.out⟩
        show _ = _
        rw [datas_take_snoc Hsk.out, Sum.frames_append, data_append, data_append, data_append, HBB.out, HF1.out, HF2.out, data_mk, data_mk]
        simp [Sum.frames, Sum.frame]
       case measure => simp [intOf]; omega
    · go_wp2
      go_ret
      have h := HBB.out
      rw [List.take_of_length_le (by have := Hn.out; omega)] at h
      exact ⟨ret_string (of_data (by rw [h])), hb⟩
set_option maxHeartbeats 2000000 in
theorem rscan_any (s : ByteArray) (w : World) (hN : s.size ≤ 1000000000) :
    Calls Tryz.prog 165 #[.string s] w fun e w' => ∃ A c, e = .returned (.tuple #[.slice A (Sum.scan s.data.toList).1.length c, .int .i64 (Sum.scan s.data.toList).2]) ∧
      w'.ownsRow w.heap.size 9 1 (.slice A (Sum.scan s.data.toList).1.length c) (Sum.scan s.data.toList).1.length (strs (texts (Sum.scan s.data.toList).1)) ∧ Below w.heap.size w w' := by
  obtain ⟨i0, hi, hz0, hz1, hz2⟩ := info_parts info_string
  go_enter Tryz.func165, Tryz.ntmps165
  go_wp2
  go_loopw [4, 5] (fun o i wr => ∃ (l : List (List UInt8)) (k : Nat), k ≤ s.size ∧ 8 * l.length ≤ k ∧ i = .int .i64 k ∧ Hid (Sum.scan s.data.toList = (l ++ (Sum.scan (s.data.toList.drop k)).1, k + (Sum.scan (s.data.toList.drop k)).2)) ∧
    (∃ A c, o = .slice A l.length c) ∧ wr.ownsRow w.heap.size 9 1 o l.length (strs (texts l)) ∧ Below w.heap.size w wr) (fun _ i _ => s.size - (intOf i).toNat)
  case atStart => exact ⟨[], 0, Nat.zero_le _, by simp, rfl, by simp [Hid], ⟨none, 0, rfl⟩, ⟨rfl, .inl ⟨rfl, rfl⟩⟩, Below.refl _ _⟩
  case round =>
    obtain ⟨l, k, hk, hlk, rfl, HS, ⟨A, c, rfl⟩, hown, hb⟩ := hrel
    have hsz := hb.size
    by_cases h8 : k + 8 ≤ s.size
    · have hn1 : (s.extract k s.size).size = s.size - k := extract_size s k s.size (Nat.le_refl _)
      go_wp2_with fail
      refine (rfours_any (s.extract k s.size) (by rw [hn1]; omega) _ rfl _).mono ?_
      rintro e w1 ⟨rfl, q1, rfl⟩
      rw [extract_tail]
      generalize hnum : Sum.num (s.data.toList.drop k) = n
      have Hnum := Lib.hid hnum
      have hnlt : n < 4294967296 := by rw [← hnum]; exact Sum.num_lt _
      clear hnum hn1
      have hb1 : Below w.heap.size w (wr.drewN q1) := below_drewN hb q1
      have hown1 : (wr.drewN q1).ownsRow w.heap.size 9 1 (.slice A l.length c) l.length (strs (texts l)) := hown
      clear hb hown
      generalize wr.drewN q1 = w1 at *
      have hsz1 := hb1.size
      have hnone : ∀ _h : ¬ (8 ≤ (s.data.toList.drop k).length ∧ n ≤ 60000 ∧ n ≤ (s.data.toList.drop k).length - 8 ∧ Sum.crc (((s.data.toList.drop k).drop 8).take n) = Sum.num ((s.data.toList.drop k).drop 4)), Sum.scan s.data.toList = (l, k) := by
        intro h
        have h1 : Sum.scan (s.data.toList.drop k) = ([], 0) := by
          apply Sum.scan_none
          unfold Sum.head
          rw [Hnum.out, if_neg h]
        have h2 := HS.out
        rw [h1] at h2
        simpa using h2
      have Hnone := Lib.hid hnone; clear hnone
      have hdl : (s.data.toList.drop k).length = s.size - k := by rw [List.length_drop, len_data]
      have Hdl := Lib.hid hdl; clear hdl
      by_cases hA : 60000 < n
      · have hA' : decide ((60000 : Int) < n) = true := by simp; omega
        go_wp2
        go_ret2
        have hfin := Hnone.out (by omega)
        rw [hfin]
        exact ⟨A, c, rfl, hown1, hb1⟩
      · have hA' : decide ((60000 : Int) < n) = false := by simp; omega
        by_cases hB : s.size - (k + 8) < n
        · have hB' : decide ((s.size : Int) - k - 8 < n) = true := by simp; omega
          go_wp2
          go_ret2
          have hfin := Hnone.out (by rw [Hdl.out]; omega)
          rw [hfin]
          exact ⟨A, c, rfl, hown1, hb1⟩
        · have hB' : decide ((s.size : Int) - k - 8 < n) = false := by simp; omega
          have b1 : (0 : Int) ≤ (k : Int) + 8 := by omega
          have b2 : (k : Int) + 8 ≤ (k : Int) + 8 + (n : Int) := by omega
          have b3 : (k : Int) + 8 + (n : Int) ≤ (s.size : Int) := by omega
          have b4 : (k : Int) + 4 ≤ (s.size : Int) := by omega
          have b5 : (0 : Int) ≤ (k : Int) + 4 := by omega
          have x1 : IntKind.i64.wrap ((k : Int) + 8 + n) = (k : Int) + 8 + n := IntWalk.i64_in _ (by omega)
          have x2 : IntKind.i64.wrap ((k : Int) + 4) = (k : Int) + 4 := IntWalk.i64_in _ (by omega)
          have x3 : IntKind.i64.wrap ((s.size : Int) - (k : Int) - 8) = (s.size : Int) - (k : Int) - 8 := IntWalk.i64_in _ (by omega)
          have n1 : ((k : Int) + 8).toNat = k + 8 := by omega
          have n2 : ((k : Int) + 8 + (n : Int)).toNat = k + 8 + n := by omega
          have n3 : ((k : Int) + 4).toNat = k + 4 := by omega
          obtain ⟨t, Ht⟩ : ∃ t, Hid (t = s.extract (k + 8) (k + 8 + n)) := ⟨_, rfl⟩
          have hts : t.size = n := by rw [Ht.out, extract_size _ _ _ (by omega)]; omega
          have htd : ((s.data.toList.drop k).drop 8).take n = t.data.toList := by
            rw [Ht.out, extract_data', List.drop_drop, show k + 8 + n - (k + 8) = n from by omega]
          have Htd := Lib.hid htd; clear htd
          have Hts := Lib.hid hts; clear hts
          obtain ⟨u, Hu⟩ : ∃ u, Hid (u = Sum.num ((s.data.toList.drop k).drop 4)) := ⟨_, rfl⟩
          obtain ⟨v, Hv⟩ : ∃ v, Hid (v = Sum.crc t.data.toList) := ⟨_, rfl⟩
          by_cases hC : v = u
          · have HC := Lib.hid hC; clear hC
            have hC' : ((v : Int) != (u : Int)) = false := by rw [HC.out]; simp
            go_wp2
            go_region_held3 (fun _ => True) (trivial) (first
              | (go_at_call 170; refine (rcrc_any (s.extract (k + 8) (k + 8 + n)) t.data.toList (by rw [← Ht.out]) (by rw [← Ht.out, Hts.out]; omega) _).mono ?_; rw [← Hv.out]; rintro e w' ⟨rfl, rfl⟩)
              | (go_at_call 221; refine (rfours_any (s.extract (k + 4) s.size) (by rw [extract_size _ _ _ (Nat.le_refl _)]; omega) ((s.data.toList.drop k).drop 4) (by rw [extract_tail, List.drop_drop]) _).mono ?_; rw [← Hu.out]; rintro e w' ⟨rfl, q2, rfl⟩))
            have hbw2 : Below w.heap.size w (w1.drewN (1 + q2)) := below_drewN hb1 _
            have hown2 : (w1.drewN (1 + q2)).ownsRow w.heap.size 9 1 (.slice A l.length c) l.length (strs (texts l)) := hown1
            have hll : l.length ≤ 1000000000 := by omega
            have hwz : w.heap.size ≤ (w1.drewN (1 + q2)).heap.size := by show _ ≤ w1.heap.size; omega
            generalize w1.drewN (1 + q2) = w2 at *
            clear hb1 hown1 hsz1
            go_wp2_with (at_builtin; refine wpList_append_own _ rfl _ _ 22 rfl w.heap.size 9 i0 (.string ⟨#[]⟩) 1 16 Tryz.underlying22 hi hz0 hz1 hz2 rfl (by decide) _ _ _ rfl (hown2.alloc _) ⟨w2.heap.size, 0, none⟩ 1 1 [.string (s.extract (k + 8) (k + 8 + n))] rfl rfl ?c1 ?c2 ?c3 ?c4 ?c5 ?_)
            case c1 => exact cell_one_new _ _ _
            case c2 => simp [Value.oneCell']
            case c3 => unfold maxLen; omega
            case c4 => omega
            case c5 => simp; omega
            intro v3 w3 hown3 hgrow3 _
            rw [← Ht.out] at hown3
            obtain ⟨A3, c3, rfl⟩ : ∃ A3 c3, v3 = .slice A3 (l.length + 1) c3 := by
              rcases hown3.2 with ⟨_, h0⟩ | ⟨g, cap, cur, hv, _⟩
              · omega
              · exact ⟨_, _, hv⟩
            go_wp2
            go_roundw
            case rel =>
              refine ⟨l ++ [t.data.toList], k + 8 + n, by omega, by simp; omega, by go_num, ?_, ⟨A3, c3, by simp⟩, ?_, ?_⟩
              · show _ = _
                have hh : Sum.head (s.data.toList.drop k) = some t.data.toList := by
                  unfold Sum.head
                  rw [Hnum.out, Htd.out, Hdl.out, if_pos ⟨by omega, by omega, by omega, by rw [← Hv.out, ← Hu.out]; exact HC.out⟩]
                have h1 := HS.out
                rw [Sum.scan_some hh, List.drop_drop, len_data, Hts.out] at h1
                rw [h1, show k + (8 + n) = k + 8 + n from by omega]
                simp [Nat.add_assoc]
              · have e1 : strs (texts (l ++ [t.data.toList])) = strs (texts l) ++ [.string t] := by simp [strs, texts]
                rw [e1]
                simpa using hown3
              · exact (hbw2.alloc (by omega) _).grown hgrow3 (by simp; omega) (fun g hg => (hown2.lt g hg).1)
            case measure => simp [intOf]; omega
          · have HC := Lib.hid hC
            have hC' : ((v : Int) != (u : Int)) = true := by simp; omega
            clear hC
            go_wp2
            go_region_held3 (fun _ => True) (trivial) (first
              | (go_at_call 170; refine (rcrc_any (s.extract (k + 8) (k + 8 + n)) t.data.toList (by rw [← Ht.out]) (by rw [← Ht.out, Hts.out]; omega) _).mono ?_; rw [← Hv.out]; rintro e w' ⟨rfl, rfl⟩)
              | (go_at_call 221; refine (rfours_any (s.extract (k + 4) s.size) (by rw [extract_size _ _ _ (Nat.le_refl _)]; omega) ((s.data.toList.drop k).drop 4) (by rw [extract_tail, List.drop_drop]) _).mono ?_; rw [← Hu.out]; rintro e w' ⟨rfl, q2, rfl⟩))
            go_wp2
            go_ret2
            have hfin := Hnone.out (by rw [Hdl.out, Htd.out, ← Hu.out, ← Hv.out]; rintro ⟨_, _, _, h⟩; exact HC.out h)
            rw [hfin]
            exact ⟨A, c, rfl, hown1, below_drewN hb1 _⟩
    · go_wp2
      go_ret2
      have hlt : (s.data.toList.drop k).length < 8 := by rw [List.length_drop, len_data]; omega
      have h2 := HS.out
      rw [Sum.scan_short hlt] at h2
      simp only [List.append_nil, Nat.add_zero] at h2
      rw [h2]
      exact ⟨A, c, rfl, hown, hb⟩
end Go.Proofs.YtfmbadinfhpihaaGreat.Sm
