/-
  The walk of SumPieces: for every list of texts and every cut it returns true, and nothing that was there has turned.
  Conditions: texts within what a slice and a string may have; cut an int.
-/
import Derived.Test.YtfejelcjklmchaaSum4
import Derived.Deep.DeepCutAuto
namespace Go.Proofs.Ytfejelcjklmchaa
open Go.RowKit

set_option maxHeartbeats 400000 in
theorem joined_any (ss : List ByteArray) (A : Option Addr) (c B : Nat) (w : World) (hr : Reads w B 1 A ss.length (strs ss)) (hl : ss.length ≤ 9223372036854775807) (hN : total ss ≤ 1000000000) :
    Calls Try.prog 12 #[.slice A ss.length c] w fun e w' => e = .returned (.string ⟨(cat ss).toArray⟩) ∧ w = w' := by
  generalize hn : ss.length = n at *
  have Hn := Lib.hid hn; clear hn
  go_enter Try.func12, Try.ntmps12
  go_wp2
  go_loop [3, 4] (fun t i => ∃ (k : Nat) (u : ByteArray), k ≤ n ∧ i = .int .i64 k ∧ t = .string u ∧ u.size ≤ 1000000000 ∧ Hid (u.data.toList = cat (ss.take k))) (fun _ i => n - (intOf i).toNat)
  case atStart => exact ⟨0, ⟨#[]⟩, Nat.zero_le _, rfl, rfl, by decide, rfl⟩
  case round =>
    obtain ⟨k, u, hk, rfl, rfl, hu, HU⟩ := hrel
    by_cases hlt : k < n
    · obtain ⟨ad, s, rfl, _, hsk, hc⟩ := str_at hr hlt
      have hst : s.size ≤ 1000000000 := by have := size_le_total (List.mem_of_getElem? hsk); omega
      have Hsk := Lib.hid hsk; clear hsk
      go_wp2
      go_round
      case rel =>
        have hd : (u ++ s).data.toList = cat (ss.take (k + 1)) := by rw [data_append, HU.out, take_snoc Hsk.out, cat_snoc]
        refine ⟨k + 1, _, by omega, by go_num, rfl, ?_, hd⟩
        rw [← len_data, hd, cat_length]
        have := total_take_le ss (k + 1)
        omega
      case measure => simp [intOf]; omega
    · go_wp2
      go_ret
      have h1 := HU.out
      rw [List.take_of_length_le (by have := Hn.out; omega)] at h1
      refine ⟨ret_string ?_, rfl⟩
      apply of_data
      rw [h1]

set_option maxHeartbeats 1000000 in
theorem pieces_walk (ss : List ByteArray) (cut : Int) (h1 : -9223372036854775808 ≤ cut) (h2 : cut ≤ 9223372036854775807) (A : Option Addr) (c : Nat) (w : World) (hr : Reads w w.heap.size 1 A ss.length (strs ss)) (hl : ss.length ≤ 9223372036854775807) (hs : ∀ s ∈ ss, s.size ≤ 9223372036854775807) :
    Calls Try.prog 5 #[.slice A ss.length c, .int .i64 cut] w fun e w' => e = .returned (.bool true) ∧ Below w.heap.size w w' := by
  have Hs := Lib.hid hs; clear hs
  have Hr := Lib.hid hr; clear hr
  cases hsh : shortB 100 6000 ss
  · have Hsh := Lib.hid hsh; clear hsh
    go_enter Try.func5, Try.ntmps5
    go_wp2_with fail
    refine (short4_any ss A c _ Hr.out hl Hs.out).mono ?_
    rintro e w1 ⟨rfl, hb1⟩
    rw [Hsh.out]
    go_wp2_with fail
    refine (alive4_any _).mono ?_
    rintro e w2 ⟨rfl, hb2⟩
    go_wp2
    go_ret
    exact ⟨rfl, hb1.trans (hb2.mono hb1.size)⟩
  · have hsh' := shortB_iff.1 hsh
    have Hsh := Lib.hid hsh; clear hsh
    have htot := hsh'.2
    have hlen := hsh'.1
    clear hsh'
    obtain ⟨u, Hu⟩ : ∃ u : ByteArray, Hid (u = ⟨(cat ss).toArray⟩) := ⟨_, rfl⟩
    have hus : u.size ≤ 6000 := by rw [Hu.out, ← len_data, data_mk, cat_length]; exact htot
    have hud : u.data.toList = cat ss := by rw [Hu.out, data_mk]
    have Hud := Lib.hid hud; clear hud
    obtain ⟨x, Hx⟩ : ∃ x : Nat, Hid (Sum.crc (cat ss) = x) := ⟨_, rfl⟩
    have hx : x < 4294967296 := by rw [← Hx.out]; exact Sum.crc_lt _
    go_enter Try.func5, Try.ntmps5
    go_wp2_with fail
    refine (short4_any ss A c _ Hr.out hl Hs.out).mono ?_
    rintro e w1 ⟨rfl, hb1⟩
    rw [Hsh.out]
    go_wp2_with fail
    refine (joined_any ss A c _ _ (Hr.out.below hb1) hl (by omega)).mono ?_
    rintro e w1' ⟨rfl, rfl⟩
    rw [← Hu.out]
    go_upto_if 16 with (fail)
    go_cut [6] (fun s6 wx => ∃ K : Nat, s6 = .int .i64 K ∧ K ≤ u.size ∧ w1 = wx)
    case first =>
      by_cases hL : u.size = 0
      · go_wp2_with fail
        go_meet
        exact ⟨0, rfl, by omega, rfl⟩
      · have hL' : (0 : Int) < u.size := by omega
        by_cases hc0 : 0 ≤ cut
        · have e1 := Int.emod_nonneg cut (b := (u.size : Int)) (by omega)
          have e2 := Int.emod_lt_of_pos cut hL'
          go_wp2_with fail
          go_meet
          refine ⟨(cut % (u.size : Int)).toNat, ?_, by omega, rfl⟩
          rw [Int.toNat_of_nonneg e1]
        · have e0 : cut.tmod (u.size : Int) = -((-cut) % (u.size : Int)) := by
            rw [← Int.tmod_eq_emod_of_nonneg (by omega), Int.neg_tmod, Int.neg_neg]
          have e1 := Int.emod_nonneg (-cut) (b := (u.size : Int)) (by omega)
          have e2 := Int.emod_lt_of_pos (-cut) hL'
          have e3 : cut.tmod (u.size : Int) ≤ 0 := by omega
          have e4 : -(u.size : Int) < cut.tmod (u.size : Int) := by omega
          clear e0 e1 e2
          by_cases hneg : cut.tmod (u.size : Int) < 0
          · go_wp2_with fail
            go_meet
            refine ⟨(cut.tmod (u.size : Int) + u.size).toNat, ?_, by omega, rfl⟩
            rw [Int.toNat_of_nonneg (by omega)]
          · go_wp2_with fail
            go_meet
            refine ⟨(cut.tmod (u.size : Int)).toNat, ?_, by omega, rfl⟩
            rw [Int.toNat_of_nonneg (by omega)]
    case rest =>
      obtain ⟨K, rfl, hK, rfl⟩ := hcut
      have hcu : cat [u] = cat ss := by simp [cat, Hud.out]
      have Hcu := Lib.hid hcu; clear hcu
      go_wp2_with fail
      refine (crc_is [u] _ _ _ _ x rfl (by rw [Hcu.out]; exact Hx.out) _ (reads_new w1 [u] 9 _ rfl rfl (Nat.lt_succ_self _)) (by simp [total]; omega) (by simp)).mono ?_
      rintro e w3 ⟨rfl, hw3⟩
      have hz1 := hb1.size
      have hb3 : Below w.heap.size w w3 := by rw [← hw3]; exact hb1.alloc hz1 _
      clear hw3
      have hz3 := hb3.size
      clear hb1 hz1
      have b0 : (0 : Int) ≤ (K : Int) := by omega
      have b1 : (K : Int) ≤ (u.size : Int) := by omega
      have b2 : ((K : Int)).toNat = K := by omega
      have hcc : cat [u.extract 0 K, u.extract K u.size] = cat ss := by
        rw [← Hud.out]
        simp only [cat, List.flatMap_cons, List.flatMap_nil, List.append_nil]
        rw [extract_tail, extract_data', List.drop_zero, Nat.sub_zero, List.take_append_drop]
      have Hcc := Lib.hid hcc; clear hcc
      have x1 : ((x : Int) == (x : Int)) = true := by simp
      have x2 : decide ((x : Int) < 4294967296) = true := by simp; omega
      have x3 : decide ((0 : Int) ≤ (x : Int)) = true := by simp
      go_wp2_with fail
      go_region_held3 (fun _ => True) (trivial) (first
        | (go_at_call 8; refine (alive4_any _).mono ?_; rintro e w4 ⟨rfl, hb4⟩)
        | (go_at_call_of 13 (Value.slice A ss.length c); refine (crc_is ss A c _ _ x rfl Hx.out _ ((Hr.out.below hb3).drew.below (hb4.mono hz3)) (by omega) (by omega)).mono ?_; rintro e w5 ⟨rfl, rfl⟩)
        | (go_at_call_of 13 (Value.slice none 0 0); refine (crc_is [] none 0 0 0 0 rfl rfl _ Reads.none_ (by decide) (by decide)).mono ?_; rintro e w6 ⟨rfl, rfl⟩)
        | (go_at_call_of 13 (Value.slice (some ⟨w4.heap.size, 0, none⟩) 2 2); refine (crc_is [u.extract 0 K, u.extract K u.size] _ _ _ _ x rfl (by rw [Hcc.out]; exact Hx.out) _ (reads_new w4 _ 9 _ rfl rfl (Nat.lt_succ_self _)) (by simp [total]; omega) (by simp)).mono ?_; rintro e w5 ⟨rfl, rfl⟩))
      go_wp2
      go_ret
      exact ⟨rfl, (hb3.drew.trans (hb4.mono hz3)).alloc (Nat.le_trans hz3 hb4.size) _⟩
end Go.Proofs.Ytfejelcjklmchaa
