/-
  The walk of SumChanged: a frame of which one byte is changed is not found as it was.
  Conditions: a text within what a string may have; ints.
-/
import Derived.Test.YtfejelcjklmchaaSumBack
import Derived.Lib.ConvBytes
import Derived.Deep.DeepCutAuto
namespace Go.Proofs.Ytfejelcjklmchaa
open Go.RowKit

/-- '[]byte(s)': a new row that holds the bytes and may be written. -/
theorem bytes_of_string (W : World) (s : ByteArray) : ∃ cap W', (convert 9 30 (.string s)).run Try.prog W = .ok (.slice (some ⟨W.heap.size, 0, none⟩) s.size cap) W' ∧ Below W.heap.size W W' ∧ W'.heap.size = W.heap.size + 1 ∧
    (∀ j, j < s.size → W'.cell? ⟨W.heap.size, j, none⟩ = some (.int .u8 (s.data.toList.getD j 0).toNat)) ∧ (∀ j, j < s.size → W'.frozen? ⟨W.heap.size, j, none⟩ = false) := by
  refine ⟨_, _, Lib.run_convert_string_bytes W 9 30 5 s Try.underlying9 Try.underlying30 Try.underlying5, ?_, Lib.bytesWorld_size _ _ _, fun j hj => Lib.bytesWorld_cell W _ s j hj, fun j hj => ?_⟩
  · exact ⟨rfl, rfl, rfl, by rw [Lib.bytesWorld_size]; omega, fun k hk => Lib.bytesWorld_at_old W _ s k hk⟩
  · have h := Lib.bytesWorld_at_new W 5 s
    have h2 : s.size ≤ (Lib.bytesCells W 5 s).size := by
      have : (s.data.map fun b => Value.int .u8 b.toNat).size = s.size := by simp
      unfold Lib.bytesCells
      rw [Array.size_append, this]; omega
    simp only [World.frozen?, h]
    simp; omega

theorem tmod_bounds (a : Int) {l : Int} (h : 0 < l) : -l < a.tmod l ∧ a.tmod l < l := by
  by_cases ha : 0 ≤ a
  · rw [Int.tmod_eq_emod_of_nonneg ha]
    have e1 := Int.emod_nonneg a (b := l) (by omega)
    have e2 := Int.emod_lt_of_pos a h
    omega
  · have e0 : a.tmod l = -((-a) % l) := by
      rw [← Int.tmod_eq_emod_of_nonneg (by omega), Int.neg_tmod, Int.neg_neg]
    have e1 := Int.emod_nonneg (-a) (b := l) (by omega)
    have e2 := Int.emod_lt_of_pos (-a) h
    omega
theorem xor_ne (a b : UInt8) (h : b ≠ 0) : a ≠ a ^^^ b := by
  intro e
  apply h
  have h1 : a ^^^ a = a ^^^ (a ^^^ b) := by rw [← e]
  rw [← UInt8.xor_assoc, UInt8.xor_self, UInt8.zero_xor] at h1
  exact h1.symm
theorem add_off (g j : Nat) : ((⟨g, 0, none⟩ : Addr).add j) = ⟨g, j, none⟩ := by
  unfold Addr.add; split
  · rename_i h; subst h; rfl
  · simp

set_option maxHeartbeats 1000000 in
theorem changed_walk (s : ByteArray) (at' by' : Int) (_h1 : -9223372036854775808 ≤ at') (_h2 : at' ≤ 9223372036854775807) (hs : s.size ≤ 9223372036854775807) (w : World) :
    Calls Try.prog 4 #[.string s, .int .i64 at', .int .i64 by'] w fun e w' => e = .returned (.bool true) ∧ Below w.heap.size w w' := by
  by_cases hlong : 3000 < s.size
  · go_enter Try.func4, Try.ntmps4
    go_wp2_with fail
    refine (alive4_any _).mono ?_
    rintro e w2 ⟨rfl, hb2⟩
    go_wp2
    go_ret
    exact ⟨rfl, hb2⟩
  · by_cases hzero : by' % 256 = 0
    · have hz : (by' % 256 == 0) = true := by simp [hzero]
      clear hzero
      go_enter Try.func4, Try.ntmps4
      go_wp2_with fail
      refine (alive4_any _).mono ?_
      rintro e w2 ⟨rfl, hb2⟩
      go_wp2
      go_ret
      exact ⟨rfl, hb2⟩
    · have hz : (by' % 256 == 0) = false := by simp [hzero]
      obtain ⟨y, hy⟩ : ∃ y : UInt8, by' % 256 = y.toNat := ⟨UInt8.ofNat (by' % 256).toNat, by rw [UInt8.toNat_ofNat']; omega⟩
      have hy0 : y ≠ 0 := by rintro rfl; simp at hy; omega
      have Hy := Lib.hid hy; clear hy hzero
      obtain ⟨F, HF⟩ : ∃ F : List UInt8, Hid (Sum.frame s.data.toList = F) := ⟨_, rfl⟩
      have hFl : F.length = s.size + 8 := by rw [← HF.out, Sum.frame_length, len_data]
      obtain ⟨u, Hu⟩ : ∃ u : ByteArray, Hid ((⟨F.toArray⟩ : ByteArray) = u) := ⟨_, rfl⟩
      have hud : u.data.toList = F := by rw [← Hu.out, data_mk]
      have hus : u.size = s.size + 8 := by rw [← len_data, hud, hFl]
      have hfr : Sum.frames (datas [s]) = F := by simp [Sum.frames, datas, HF.out]
      have Hfr := Lib.hid hfr; clear hfr
      have Hud := Lib.hid hud; clear hud
      have HFl := Lib.hid hFl; clear hFl
      have Hus := Lib.hid hus
      have hu8 : 8 ≤ u.size := by omega
      have hu3 : u.size ≤ 3008 := by omega
      have hne1 : ((u.size : Int) != (s.size : Int) + 8) = false := by rw [hus]; simp
      clear hus
      go_enter Try.func4, Try.ntmps4
      go_wp2_with fail
      refine (frame_is [s] _ _ _ rfl F Hfr.out _ (reads_new _ [s] 9 _ rfl (by simp) (by simp)) (by simp [total]; omega)).mono ?_
      rintro e w1 ⟨rfl, hb1⟩
      rw [Hu.out]
      have hbw1 : Below w.heap.size w w1 := ((Below.refl _ _).alloc (Nat.le_refl _) _).trans (hb1.mono (by simp))
      have hzw1 := hbw1.size
      clear hb1
      obtain ⟨cap, w2, hcv, hb2, hz2, hcell, hfz⟩ := bytes_of_string w1 u
      have Hcell := Lib.hid hcell; clear hcell
      have Hfz := Lib.hid hfz; clear hfz
      have hbw2 : Below w.heap.size w w2 := hbw1.trans (hb2.mono hzw1)
      have Hz2 := Lib.hid hz2; clear hz2
      have hz2' : w1.heap.size < w2.heap.size := by have := Hz2.out; omega
      clear hb2
      go_upto_if 35 with (fail)
      go_cut [8] (fun s8 wx => ∃ K : Nat, s8 = .int .i64 K ∧ K < u.size ∧ w2 = wx)
      case first =>
        have hb := tmod_bounds at' (l := (u.size : Int)) (by omega)
        by_cases hneg : at'.tmod (u.size : Int) < 0
        · go_wp2_with fail
          go_meet
          refine ⟨(at'.tmod (u.size : Int) + u.size).toNat, ?_, by omega, rfl⟩
          rw [Int.toNat_of_nonneg (by omega)]
        · go_wp2_with fail
          go_meet
          refine ⟨(at'.tmod (u.size : Int)).toNat, ?_, by omega, rfl⟩
          rw [Int.toNat_of_nonneg (by omega)]
      case rest =>
        obtain ⟨K, rfl, hK, rfl⟩ := hcut
        clear _h1 _h2
        obtain ⟨f, Hf⟩ : ∃ f : UInt8, Hid (u.data.toList.getD K 0 = f) := ⟨_, rfl⟩
        obtain ⟨z, Hz⟩ : ∃ z : UInt8, Hid (z = f ^^^ y) := ⟨_, rfl⟩
        have hxor : bits .xor .u8 (f.toNat : Int) (by' % 256) = (z.toNat : Int) := by
          rw [Hy.out, u8_xor_nat f.toNat y.toNat f.toNat_lt y.toNat_lt, Hz.out]
          simp
        have hc1 : w2.cell? ⟨w1.heap.size, K, none⟩ = some (.int .u8 f.toNat) := by rw [Hcell.out K hK, Hf.out]
        have hf1 : w2.frozen? ⟨w1.heap.size, K, none⟩ = false := Hfz.out K hK
        have hfK : F.length > K := by have := HFl.out; have := Hus.out; omega
        have hget : F[K]? = some f := by
          have h := Hf.out
          rw [Hud.out, List.getD_eq_getElem?_getD, List.getElem?_eq_getElem hfK] at h
          rw [List.getElem?_eq_getElem hfK]
          simpa using h
        obtain ⟨G, HG⟩ : ∃ G : List UInt8, Hid (F.set K z = G) := ⟨_, rfl⟩
        have hGl : G.length = u.size := by rw [← HG.out, List.length_set, HFl.out, Hus.out]
        have hread : Reads (w2.setCell ⟨w1.heap.size, K, none⟩ (.int .u8 z.toNat)) w2.heap.size 1 (some ⟨w1.heap.size, 0, none⟩) u.size (Lib.byteCells G) := by
          refine ⟨by rw [Lib.byteCells_length, hGl]; omega, fun _ => ⟨_, rfl, hz2', fun j v hv => ?_⟩⟩
          rw [add_off]
          simp only [Lib.byteCells, List.getElem?_map, Option.map_eq_some_iff] at hv
          obtain ⟨b, hb, rfl⟩ := hv
          have hj : j < u.size := by have := (List.getElem?_eq_some_iff.1 hb).1; omega
          rw [← HG.out] at hb
          by_cases hjk : j = K
          · subst hjk
            rw [List.getElem?_set_self hfK] at hb
            injection hb with hb
            subst hb
            exact World.cell?_setCell_same _ _ _ hc1
          · rw [List.getElem?_set_ne (Ne.symm hjk)] at hb
            rw [World.cell?_setCell_other _ _ _ _ (by intro e; injection e with _ e2; exact hjk e2.symm), Hcell.out j hj, Hud.out, List.getD_eq_getElem?_getD, hb]
            rfl
        have hcv2 := run_bytes_string (P := Try.prog) (c := cap) (w2.setCell ⟨w1.heap.size, K, none⟩ (.int .u8 z.toNat)) Try.underlying30 Try.underlying5 Try.underlying9 hGl hread
        have hbw3 : Below w.heap.size w (w2.setCell ⟨w1.heap.size, K, none⟩ (.int .u8 z.toNat)) := hbw2.setCell (p := ⟨w1.heap.size, K, none⟩) hzw1 _
        have hne : f ≠ z := by rw [Hz.out]; exact xor_ne f y hy0
        have hchg := Sum.scan_changed (s := s.data.toList) (by rw [len_data]; omega) K (by rw [len_data]; have := Hus.out; omega) z (by
          have e : (Sum.frame s.data.toList)[K]? = some f := by rw [HF.out]; exact hget
          rw [List.getElem?_eq_getElem (by rw [HF.out]; exact hfK)] at e
          injection e with e
          rw [e]; exact hne)
        rw [HF.out, HG.out] at hchg
        have Hchg := Lib.hid hchg
        clear hchg hne hread hget
        have HGl := Lib.hid hGl; clear hGl
        obtain ⟨Y, HY⟩ : ∃ Y, Hid ((Sum.scan G).1 = Y) := ⟨_, rfl⟩
        obtain ⟨m, Hm⟩ : ∃ m, Hid ((Sum.scan G).2 = m) := ⟨_, rfl⟩
        have hG3 : (⟨G.toArray⟩ : ByteArray).size ≤ 3008 := by rw [← len_data, data_mk, HGl.out]; exact hu3
        have HG3 := Lib.hid hG3; clear hG3
        go_wp2_with fail
        refine (scan_is ⟨G.toArray⟩ Y m (by rw [data_mk, ← HY.out, ← Hm.out]) _ (by have := HG3.out; omega)).mono ?_
        rintro e w4 ⟨A, c, rfl, hr4, _, hb4⟩
        have hbw4 : Below w.heap.size w w4 := hbw3.trans (hb4.mono hbw3.size)
        have hz4 := hbw4.size
        clear hb4 hbw3 hcv2 hc1 hf1 hxor
        go_wp2_with fail
        refine (alive4_any _).mono ?_
        rintro e w5 ⟨rfl, hb5⟩
        have hbw5 : Below w.heap.size w w5 := hbw4.trans (hb5.mono hz4)
        have Hr5 := Lib.hid (hr4.below hb5)
        clear hb5 hr4
        by_cases hK4 : K < 4
        · by_cases hY1 : Y.length = 1
          · obtain ⟨t, rfl⟩ : ∃ t, Y = [t] := List.length_eq_one_iff.1 hY1
            obtain ⟨ad, v, rfl, _, hv, hc5⟩ := Hr5.out.at_ (k := 0) (by simp)
            have hv' : v = .string ⟨t.toArray⟩ := by simpa [strs, texts] using hv.symm
            subst hv'
            have hc5' : w5.cell? ad = some (.string ⟨t.toArray⟩) := hc5
            have hts : (t == s.toList) = false := by
              rw [beq_eq_false_iff_ne, ByteArray.toList_eq]
              rintro rfl
              exact Hchg.out.1 HY.out
            clear hc5 hv hY1
            go_wp2
            go_ret
            exact ⟨rfl, hbw5⟩
          · have hY1' : ((Y.length : Int) == 1) = false := by simp; omega
            clear hY1
            go_wp2
            go_ret
            exact ⟨rfl, hbw5⟩
        · have h0 := Hchg.out.2 (by omega)
          have hY0 : Y = [] := by rw [← HY.out, h0]
          have hm0 : m = 0 := by rw [← Hm.out, h0]
          subst hY0 hm0
          clear h0
          go_wp2
          go_ret
          exact ⟨rfl, hbw5⟩
end Go.Proofs.Ytfejelcjklmchaa
