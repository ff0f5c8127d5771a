/-
  WalEmpty: a group of no records is none; a record that is too long is refused, and breaks nothing.
  Conditions: a list of texts, a number.
-/
import Derived.Test.YtfmbadinfhpihaaGreatWalBroken
namespace Go.Proofs.YtfmbadinfhpihaaGreat
open Go.RowKit Go.Maps
set_option maxRecDepth 100000

/-- A text of zeros. -/
def zerosB (k : Nat) : ByteArray := ⟨(List.replicate k (0 : UInt8)).toArray⟩
theorem zeros_size (k : Nat) : (zerosB k).size = k := by rw [← len_data]; show (List.replicate k (0 : UInt8)).length = k; simp
theorem zeros_cells (k : Nat) : Lib.byteCells (List.replicate k (0 : UInt8)) = List.replicate k (.int .u8 0) := by
  unfold Lib.byteCells
  rw [List.map_replicate]
  rfl
def mz (k : Nat) : Array Value := madeCells (Value.int .u8 0).cells (k * 1)
theorem mz_list (k : Nat) : (mz k).toList = Lib.byteCells (List.replicate k (0 : UInt8)) := by
  rw [zeros_cells]
  unfold mz madeCells
  apply List.ext_getElem
  · simp
  · intro i h1 h2
    simp [Value.cells, Nat.mod_one]
theorem run_make_zeros (k : Nat) (hk : k ≤ 100000) (w : World) : (Instr.makeSlice 48 (.int .i64 (k : Int)) (.int .i64 (k : Int))).run Tryz.prog w = .ok (.slice (some ⟨w.heap.size, 0, none⟩) k k) (w.alloc (.cells (mz k) 5)) := by
  obtain ⟨i0, hi, hz0, hz1, hz2⟩ := info_parts (show (Tryz.prog.info? 5).map (fun i => (i.zero, i.size, i.bytes)) = some (some (.int .u8 0), 1, 1) by kernel_rfl)
  have hr := run_make (P := Tryz.prog) w 48 5 i0 (.int .u8 0) Tryz.underlying48 hi hz0 .i64 .i64 k k (by omega) (by omega) (by rw [hz2]; omega) (by omega)
  simp only [Int.toNat_natCast] at hr
  rw [hr, hz1]
  rfl
theorem run_conv_zeros (k : Nat) (w : World) : (convert 48 9 (.slice (some ⟨w.heap.size, 0, none⟩) k k)).run Tryz.prog (w.alloc (.cells (mz k) 5)) = .ok (.string (zerosB k)) (w.alloc (.cells (mz k) 5)) :=
  run_bytes_string (B := w.heap.size + 1) (P := Tryz.prog) _ Tryz.underlying48 Tryz.underlying5 Tryz.underlying9 (by simp) (reads_newV w _ 5 _ (mz_list k) (by rw [Lib.byteCells_length]; simp) rfl (Nat.lt_succ_self _))
set_option maxHeartbeats 4000000 in
theorem wempty_walk (s1 : List ByteArray) (A1 : Option Addr) (c1 : Nat) (n : Int) (w : World) (hr1 : Reads w w.heap.size 1 A1 s1.length (strs s1)) (hl1 : s1.length ≤ 9223372036854775807)
    (hs1 : ∀ s ∈ s1, s.size ≤ 9223372036854775807) :
    Calls Tryz.prog 5 #[.slice A1 s1.length c1, .int .i64 n] w fun e w' => e = .returned (.bool true) ∧ Below w.heap.size w w' := by
  have qs1 := fun W (hb : Below w.heap.size w W) => short_any 20 3000 (by decide) (by decide) s1 A1 c1 W ((hr1.below hb).more hb.size) hl1 hs1
  obtain ⟨m1, hm1⟩ : ∃ m, s1.length = m := ⟨_, rfl⟩
  obtain ⟨b1, hb1⟩ : ∃ b, shortB 20 3000 s1 = b := ⟨_, rfl⟩
  rw [hm1] at hr1 hl1 qs1 ⊢
  rw [hb1] at qs1
  have Q1 := Lib.hid qs1; have R1 := Lib.hid hr1; have M1 := Lib.hid hm1; have B1 := Lib.hid hb1
  clear qs1 hr1 hm1 hb1 hs1
  cases b1
  · go_enter Tryz.func5, Tryz.ntmps5
    go_wp2_with fail
    refine (Q1.out w (Below.refl _ _)).mono ?_
    rintro e w1 ⟨rfl, hb1⟩
    have HB1 := Lib.hid hb1
    clear hb1
    go_wp2_with fail
    refine (alive6_any _).mono ?_
    rintro e w9 ⟨rfl, hb9⟩
    have HB9 := Lib.hid (HB1.out.trans (hb9.mono HB1.out.size))
    clear hb9
    go_wp2
    go_ret
    exact ⟨rfl, HB9.out⟩
  · by_cases g1 : n < 59990
    · go_enter Tryz.func5, Tryz.ntmps5
      go_wp2_with fail
      refine (Q1.out w (Below.refl _ _)).mono ?_
      rintro e w1 ⟨rfl, hb1⟩
      have HB1 := Lib.hid hb1
      clear hb1
      go_wp2_with fail
      refine (alive6_any _).mono ?_
      rintro e w9 ⟨rfl, hb9⟩
      have HB9 := Lib.hid (HB1.out.trans (hb9.mono HB1.out.size))
      clear hb9
      go_wp2
      go_ret
      exact ⟨rfl, HB9.out⟩
    by_cases g2 : 60010 < n
    · go_enter Tryz.func5, Tryz.ntmps5
      go_wp2_with fail
      refine (Q1.out w (Below.refl _ _)).mono ?_
      rintro e w1 ⟨rfl, hb1⟩
      have HB1 := Lib.hid hb1
      clear hb1
      go_wp2_with fail
      refine (alive6_any _).mono ?_
      rintro e w9 ⟨rfl, hb9⟩
      have HB9 := Lib.hid (HB1.out.trans (hb9.mono HB1.out.size))
      clear hb9
      go_wp2
      go_ret
      exact ⟨rfl, HB9.out⟩
    obtain ⟨k, hk⟩ : ∃ k : Nat, n = k := ⟨n.toNat, by omega⟩
    have HKL : Hid (k ≤ 60010) := by show _ ≤ _; omega
    obtain ⟨hl1, ht1⟩ := short_total B1.out
    have LO1 := Lib.hid (short_long B1.out (by decide))
    rw [M1.out] at hl1
    have HMK : Hid (∀ W : World, (Instr.makeSlice 48 (.int .i64 n) (.int .i64 n)).run Tryz.prog W = .ok (.slice (some ⟨W.heap.size, 0, none⟩) k k) (W.alloc (.cells (mz k) 5))) := by
      show ∀ W : World, _
      rw [hk]
      exact run_make_zeros k (by have := HKL.out; omega)
    have HCV := Lib.hid (run_conv_zeros k)
    by_cases h6 : 60000 ≤ k
    · have HLZ : Hid (longB [zerosB k] = true) := by
        show _ = _
        unfold longB
        simp only [List.any_cons, List.any_nil, Bool.or_false, zeros_size]
        exact decide_eq_true h6
      have HKB : Hid (decide (n < 60000) = false) := by show _ = _; simp; omega
      clear hk h6
      by_cases h0 : m1 = 0
      · have HM0 : Hid (decide ((0 : Int) < (m1 : Int)) = false) := by show _ = _; simp; omega
        have HMIN : Hid (min (m1 : Int) 1 = 0) := by show _ = _; omega
        have HM := Lib.hid h0
        clear h0
        go_enter Tryz.func5, Tryz.ntmps5
        go_wp2_with fail
        refine (Q1.out w (Below.refl _ _)).mono ?_
        rintro e w1 ⟨rfl, hb1⟩
        have HB1 := Lib.hid hb1
        clear hb1
        go_wp2_with fail
        refine (new_any _).mono ?_
        rintro e w3 ⟨c, b, rfl, h3, hc3, hb3, hbel3⟩
        have hz2 := HB1.out.size
        have hc : w.heap.size ≤ c := by omega
        have hb : w.heap.size ≤ b := by omega
        have HB3 := Lib.hid (HB1.out.trans (hbel3.mono hz2))
        have q := openA c b ⟨#[119]⟩ name_w newDk w3 h3 on1_new
        clear hbel3 h3 hc3 hb3 HB1 hz2
        go_wp2_with fail
        refine q.mono ?_
        rintro e w4 ⟨g, T4, s4, rfl, hl4, hd4, ho4, hT4, hm4⟩
        have HB4 := Lib.hid (open_here HB3.out hm4 hc hb)
        have HT4 : Hid (∀ k, k ∈ T4 → w.heap.size ≤ k) := fun k hk => Nat.le_trans HB3.out.size (hT4 k hk)
        have qo := ops_any c b s4 w4 hd4
        have q5 := commit_at g c b T4 ⟨#[119]⟩ (logOf [] false) s4 [] 0 _ _ (commit_empty _ _ _) ho4.ok 0 rfl none 0 w4 hl4 hd4 w.heap.size Reads.none_ HB4.out.size (fun h0 => absurd h0 (by decide)) (by decide) (by decide) (by decide) (by decide) (by decide) (by decide)
        have HO4 := Lib.hid ho4
        clear q hl4 hd4 ho4 hT4 hm4 HB3
        go_wp2_with fail
        refine qo.mono ?_
        rintro e w4' ⟨rfl, rfl⟩
        go_wp2_with fail
        refine q5.mono ?_
        rintro e w5 ⟨T5, rfl, hl5, hd5, hm5⟩
        obtain ⟨hB5, hT5⟩ := Mv.here HB4.out hm5 hc hb HT4.out
        have HB5 := Lib.hid hB5; have HT5 := Lib.hid hT5; have HL5 := Lib.hid hl5; have HD5 := Lib.hid hd5
        have qo5 := ops_any c b s4 w5 hd5
        have qg5 := groups_any g c T5 _ _ w5 hl5
        have hg0 : (((logOf [] false).groups : Nat) : Int) = 0 := rfl
        rw [hg0] at qg5
        clear q5 qo hl5 hd5 hm5 hB5 hT5 HB4 HT4 hg0
        go_wp2_with fail
        refine qo5.mono ?_
        rintro e w5' ⟨rfl, rfl⟩
        go_wp2_with fail
        refine qg5.mono ?_
        rintro e w5' ⟨rfl, rfl⟩
        obtain ⟨W6, hW6⟩ : ∃ W, w5.alloc (.cells (mz k) 5) = W := ⟨_, rfl⟩
        have hB56 : Below w.heap.size w W6 := by rw [← hW6]; exact HB5.out.alloc HB5.out.size _
        have hl6 : LogAt g c T5 ⟨#[119]⟩ (logOf [] false) W6 := by rw [← hW6]; exact HL5.out.alloc _
        have hd6 : DkAt c b s4 W6 := by rw [← hW6]; exact HD5.out.alloc _
        have q6 := fun (s : Nat) (hs : s = W6.heap.size) => commit_lit g c b T5 ⟨#[119]⟩ (logOf [] false) s4 [zerosB k] _ _ _ (commit_long _ _ _ _ HLZ.out) HO4.out.ok 1 rfl #[.string (zerosB k)] rfl 9 s 1 W6 hs hl6 hd6 (by decide) (by have := HKL.out; rw [total_cons, total_nil, zeros_size]; omega) (by decide) (by decide) (by decide) (by decide)
        obtain ⟨G1, s6, hG1, ho6⟩ : ∃ (G1 : List (List ByteArray)) (s6 : Dk), G1 = [] ∧ s6 = s4 := ⟨_, _, rfl, rfl⟩
        have HO6 : Hid (On1 s6 (oneF ⟨#[119]⟩ (fileOf G1) ((fileOf G1).size : Nat))) := by rw [hG1, ho6]; exact HO4
        have hq : (0 : Nat) = G1.flatten.length := by rw [hG1]; rfl
        have hq2 : (0 : Nat) = G1.length := by rw [hG1]; rfl
        have hsz6 : (fileOf G1).size ≤ 70000 := by rw [hG1]; decide
        rw [← hG1, ← ho6] at q6
        have Q6 := Lib.hid q6; have HQ := Lib.hid hq; have HQ2 := Lib.hid hq2
        have HB6 := Lib.hid hB56
        have hmk := HMK.out
        have hcv := HCV.out w5
        rw [hW6] at hcv
        have hkb := HKB.out
        have hm0 := HM0.out
        have hmin := HMIN.out
        clear q6 hq hq2 qo5 qg5 hl6 hd6 hB56 HL5 HD5 HB5
        go_wp2_with fail
        refine (Q6.out _ rfl).mono ?_
        rintro e w7 ⟨T7, rfl, hl7, hd7, hm7⟩
        obtain ⟨hB7, hT7⟩ := Mv.here HB6.out hm7 hc hb HT5.out
        have HB7 := Lib.hid hB7; have HT7 := Lib.hid hT7
        obtain ⟨G8, s8, e8, ho8, hfl8, hsz8, hln8, hG8⟩ := commit_one HO6.out LO1.out (by have := HKL.out; rw [M1.out]; omega)
        have q8 := commit_at g c b T7 ⟨#[119]⟩ (logOf G1 false) s6 s1 0 _ _ e8 HO6.out.ok m1 M1.out A1 c1 w7 hl7 hd7 w.heap.size (R1.out.below HB7.out) HB7.out.size (fun h0 ad e => by
          obtain ⟨ad', e', hlt, _⟩ := R1.out.2 h0
          rw [e] at e'; injection e' with e'; subst e'
          exact ⟨fun hm => by have := HT7.out _ hm; omega, by omega, by omega⟩) (by decide) (by omega) (by omega) (by show G1.flatten.length ≤ _; have := HQ.out; omega) (by show G1.length ≤ _; have := HQ2.out; omega) (by have := HKL.out; show (fileOf G1).size ≤ _; omega)
        have hgr8 : (((logOf G8 false).groups : Nat) : Int) = ((0 : Nat) : Int) := by
          show ((G8.length : Nat) : Int) = _
          rw [hG8, M1.out]
          rw [if_pos HM.out, ← HQ2.out]
        have hrc8 : (logOf G8 false).recs.length = 0 + m1 := by
          show G8.flatten.length = _
          rw [hfl8, List.length_append, ← HQ.out, M1.out]
        have HGR8 := Lib.hid hgr8; have HRC8 := Lib.hid hrc8
        clear Q6 hmk hcv hW6 hl7 hd7 hm7 hB7 hT7 HB6 HO6 e8 ho8 hfl8 hsz8 hln8 hG8 hgr8 hrc8 HT5 HO4
        go_wp2_with fail
        refine q8.mono ?_
        rintro e w8 ⟨T8, rfl, hl8, hd8, hm8⟩
        obtain ⟨hB8, hT8⟩ := Mv.here HB7.out hm8 hc hb HT7.out
        have HB8 := Lib.hid hB8; have HL8 := Lib.hid hl8
        clear q8 hl8 hd8 hm8 hB8 hT8 HB7 HT7
        go_wp2_with fail
        refine (alive6_any _).mono ?_
        rintro e w9 ⟨rfl, hb9⟩
        have HB9 := Lib.hid (HB8.out.trans (hb9.mono HB8.out.size))
        have hl9 := HL8.out.below hb9
        have qg9 := groups_any g c T8 _ _ w9 hl9
        rw [HGR8.out] at qg9
        have qr9 := records_any g c T8 _ _ w9 hl9 (by rw [HRC8.out]; omega)
        rw [HRC8.out] at qr9
        clear hb9 HB8 hl9 HL8
        go_wp2_with fail
        refine qg9.mono ?_
        rintro e w9' ⟨rfl, rfl⟩
        go_wp2_with fail
        refine qr9.mono ?_
        rintro e w10 ⟨v, rfl, hown, hb10⟩
        have HB10 := Lib.hid (HB9.out.trans (hb10.mono HB9.out.size))
        obtain ⟨A9, c9, rfl, _⟩ := own_form hown
        clear qr9 qg9 hown hb10 HB9
        go_wp2
        go_ret
        exact ⟨rfl, HB10.out⟩
      · have HM0 : Hid (decide ((0 : Int) < (m1 : Int)) = true) := by show _ = _; simp; omega
        have HMIN : Hid (min (m1 : Int) 1 = 1) := by show _ = _; omega
        have HM := Lib.hid h0
        clear h0
        go_enter Tryz.func5, Tryz.ntmps5
        go_wp2_with fail
        refine (Q1.out w (Below.refl _ _)).mono ?_
        rintro e w1 ⟨rfl, hb1⟩
        have HB1 := Lib.hid hb1
        clear hb1
        go_wp2_with fail
        refine (new_any _).mono ?_
        rintro e w3 ⟨c, b, rfl, h3, hc3, hb3, hbel3⟩
        have hz2 := HB1.out.size
        have hc : w.heap.size ≤ c := by omega
        have hb : w.heap.size ≤ b := by omega
        have HB3 := Lib.hid (HB1.out.trans (hbel3.mono hz2))
        have q := openA c b ⟨#[119]⟩ name_w newDk w3 h3 on1_new
        clear hbel3 h3 hc3 hb3 HB1 hz2
        go_wp2_with fail
        refine q.mono ?_
        rintro e w4 ⟨g, T4, s4, rfl, hl4, hd4, ho4, hT4, hm4⟩
        have HB4 := Lib.hid (open_here HB3.out hm4 hc hb)
        have HT4 : Hid (∀ k, k ∈ T4 → w.heap.size ≤ k) := fun k hk => Nat.le_trans HB3.out.size (hT4 k hk)
        have qo := ops_any c b s4 w4 hd4
        have q5 := commit_at g c b T4 ⟨#[119]⟩ (logOf [] false) s4 [] 0 _ _ (commit_empty _ _ _) ho4.ok 0 rfl none 0 w4 hl4 hd4 w.heap.size Reads.none_ HB4.out.size (fun h0 => absurd h0 (by decide)) (by decide) (by decide) (by decide) (by decide) (by decide) (by decide)
        have HO4 := Lib.hid ho4
        clear q hl4 hd4 ho4 hT4 hm4 HB3
        go_wp2_with fail
        refine qo.mono ?_
        rintro e w4' ⟨rfl, rfl⟩
        go_wp2_with fail
        refine q5.mono ?_
        rintro e w5 ⟨T5, rfl, hl5, hd5, hm5⟩
        obtain ⟨hB5, hT5⟩ := Mv.here HB4.out hm5 hc hb HT4.out
        have HB5 := Lib.hid hB5; have HT5 := Lib.hid hT5; have HL5 := Lib.hid hl5; have HD5 := Lib.hid hd5
        have qo5 := ops_any c b s4 w5 hd5
        have qg5 := groups_any g c T5 _ _ w5 hl5
        have hg0 : (((logOf [] false).groups : Nat) : Int) = 0 := rfl
        rw [hg0] at qg5
        clear q5 qo hl5 hd5 hm5 hB5 hT5 HB4 HT4 hg0
        go_wp2_with fail
        refine qo5.mono ?_
        rintro e w5' ⟨rfl, rfl⟩
        go_wp2_with fail
        refine qg5.mono ?_
        rintro e w5' ⟨rfl, rfl⟩
        obtain ⟨W6, hW6⟩ : ∃ W, w5.alloc (.cells (mz k) 5) = W := ⟨_, rfl⟩
        have hB56 : Below w.heap.size w W6 := by rw [← hW6]; exact HB5.out.alloc HB5.out.size _
        have hl6 : LogAt g c T5 ⟨#[119]⟩ (logOf [] false) W6 := by rw [← hW6]; exact HL5.out.alloc _
        have hd6 : DkAt c b s4 W6 := by rw [← hW6]; exact HD5.out.alloc _
        have q6 := fun (s : Nat) (hs : s = W6.heap.size) => commit_lit g c b T5 ⟨#[119]⟩ (logOf [] false) s4 [zerosB k] _ _ _ (commit_long _ _ _ _ HLZ.out) HO4.out.ok 1 rfl #[.string (zerosB k)] rfl 9 s 1 W6 hs hl6 hd6 (by decide) (by have := HKL.out; rw [total_cons, total_nil, zeros_size]; omega) (by decide) (by decide) (by decide) (by decide)
        obtain ⟨G1, s6, hG1, ho6⟩ : ∃ (G1 : List (List ByteArray)) (s6 : Dk), G1 = [] ∧ s6 = s4 := ⟨_, _, rfl, rfl⟩
        have HO6 : Hid (On1 s6 (oneF ⟨#[119]⟩ (fileOf G1) ((fileOf G1).size : Nat))) := by rw [hG1, ho6]; exact HO4
        have hq : (0 : Nat) = G1.flatten.length := by rw [hG1]; rfl
        have hq2 : (0 : Nat) = G1.length := by rw [hG1]; rfl
        have hsz6 : (fileOf G1).size ≤ 70000 := by rw [hG1]; decide
        rw [← hG1, ← ho6] at q6
        have Q6 := Lib.hid q6; have HQ := Lib.hid hq; have HQ2 := Lib.hid hq2
        have HB6 := Lib.hid hB56
        have hmk := HMK.out
        have hcv := HCV.out w5
        rw [hW6] at hcv
        have hkb := HKB.out
        have hm0 := HM0.out
        have hmin := HMIN.out
        clear q6 hq hq2 qo5 qg5 hl6 hd6 hB56 HL5 HD5 HB5
        go_wp2_with fail
        refine (Q6.out _ rfl).mono ?_
        rintro e w7 ⟨T7, rfl, hl7, hd7, hm7⟩
        obtain ⟨hB7, hT7⟩ := Mv.here HB6.out hm7 hc hb HT5.out
        have HB7 := Lib.hid hB7; have HT7 := Lib.hid hT7
        obtain ⟨G8, s8, e8, ho8, hfl8, hsz8, hln8, hG8⟩ := commit_one HO6.out LO1.out (by have := HKL.out; rw [M1.out]; omega)
        have q8 := commit_at g c b T7 ⟨#[119]⟩ (logOf G1 false) s6 s1 0 _ _ e8 HO6.out.ok m1 M1.out A1 c1 w7 hl7 hd7 w.heap.size (R1.out.below HB7.out) HB7.out.size (fun h0 ad e => by
          obtain ⟨ad', e', hlt, _⟩ := R1.out.2 h0
          rw [e] at e'; injection e' with e'; subst e'
          exact ⟨fun hm => by have := HT7.out _ hm; omega, by omega, by omega⟩) (by decide) (by omega) (by omega) (by show G1.flatten.length ≤ _; have := HQ.out; omega) (by show G1.length ≤ _; have := HQ2.out; omega) (by have := HKL.out; show (fileOf G1).size ≤ _; omega)
        have hgr8 : (((logOf G8 false).groups : Nat) : Int) = ((1 : Nat) : Int) := by
          show ((G8.length : Nat) : Int) = _
          rw [hG8, M1.out]
          rw [if_neg HM.out, List.length_append, ← HQ2.out]; rfl
        have hrc8 : (logOf G8 false).recs.length = 0 + m1 := by
          show G8.flatten.length = _
          rw [hfl8, List.length_append, ← HQ.out, M1.out]
        have HGR8 := Lib.hid hgr8; have HRC8 := Lib.hid hrc8
        clear Q6 hmk hcv hW6 hl7 hd7 hm7 hB7 hT7 HB6 HO6 e8 ho8 hfl8 hsz8 hln8 hG8 hgr8 hrc8 HT5 HO4
        go_wp2_with fail
        refine q8.mono ?_
        rintro e w8 ⟨T8, rfl, hl8, hd8, hm8⟩
        obtain ⟨hB8, hT8⟩ := Mv.here HB7.out hm8 hc hb HT7.out
        have HB8 := Lib.hid hB8; have HL8 := Lib.hid hl8
        clear q8 hl8 hd8 hm8 hB8 hT8 HB7 HT7
        go_wp2_with fail
        refine (alive6_any _).mono ?_
        rintro e w9 ⟨rfl, hb9⟩
        have HB9 := Lib.hid (HB8.out.trans (hb9.mono HB8.out.size))
        have hl9 := HL8.out.below hb9
        have qg9 := groups_any g c T8 _ _ w9 hl9
        rw [HGR8.out] at qg9
        have qr9 := records_any g c T8 _ _ w9 hl9 (by rw [HRC8.out]; omega)
        rw [HRC8.out] at qr9
        clear hb9 HB8 hl9 HL8
        go_wp2_with fail
        refine qg9.mono ?_
        rintro e w9' ⟨rfl, rfl⟩
        go_wp2_with fail
        refine qr9.mono ?_
        rintro e w10 ⟨v, rfl, hown, hb10⟩
        have HB10 := Lib.hid (HB9.out.trans (hb10.mono HB9.out.size))
        obtain ⟨A9, c9, rfl, _⟩ := own_form hown
        clear qr9 qg9 hown hb10 HB9
        go_wp2
        go_ret
        exact ⟨rfl, HB10.out⟩
    · have HLZ : Hid (longB [zerosB k] = false) := by
        show _ = _
        unfold longB
        simp only [List.any_cons, List.any_nil, Bool.or_false, zeros_size]
        exact decide_eq_false h6
      have HKB : Hid (decide (n < 60000) = true) := by show _ = _; simp; omega
      clear hk h6
      by_cases h0 : m1 = 0
      · have HM0 : Hid (decide ((0 : Int) < (m1 : Int)) = false) := by show _ = _; simp; omega
        have HMIN : Hid (min (m1 : Int) 1 = 0) := by show _ = _; omega
        have HM := Lib.hid h0
        clear h0
        go_enter Tryz.func5, Tryz.ntmps5
        go_wp2_with fail
        refine (Q1.out w (Below.refl _ _)).mono ?_
        rintro e w1 ⟨rfl, hb1⟩
        have HB1 := Lib.hid hb1
        clear hb1
        go_wp2_with fail
        refine (new_any _).mono ?_
        rintro e w3 ⟨c, b, rfl, h3, hc3, hb3, hbel3⟩
        have hz2 := HB1.out.size
        have hc : w.heap.size ≤ c := by omega
        have hb : w.heap.size ≤ b := by omega
        have HB3 := Lib.hid (HB1.out.trans (hbel3.mono hz2))
        have q := openA c b ⟨#[119]⟩ name_w newDk w3 h3 on1_new
        clear hbel3 h3 hc3 hb3 HB1 hz2
        go_wp2_with fail
        refine q.mono ?_
        rintro e w4 ⟨g, T4, s4, rfl, hl4, hd4, ho4, hT4, hm4⟩
        have HB4 := Lib.hid (open_here HB3.out hm4 hc hb)
        have HT4 : Hid (∀ k, k ∈ T4 → w.heap.size ≤ k) := fun k hk => Nat.le_trans HB3.out.size (hT4 k hk)
        have qo := ops_any c b s4 w4 hd4
        have q5 := commit_at g c b T4 ⟨#[119]⟩ (logOf [] false) s4 [] 0 _ _ (commit_empty _ _ _) ho4.ok 0 rfl none 0 w4 hl4 hd4 w.heap.size Reads.none_ HB4.out.size (fun h0 => absurd h0 (by decide)) (by decide) (by decide) (by decide) (by decide) (by decide) (by decide)
        have HO4 := Lib.hid ho4
        clear q hl4 hd4 ho4 hT4 hm4 HB3
        go_wp2_with fail
        refine qo.mono ?_
        rintro e w4' ⟨rfl, rfl⟩
        go_wp2_with fail
        refine q5.mono ?_
        rintro e w5 ⟨T5, rfl, hl5, hd5, hm5⟩
        obtain ⟨hB5, hT5⟩ := Mv.here HB4.out hm5 hc hb HT4.out
        have HB5 := Lib.hid hB5; have HT5 := Lib.hid hT5; have HL5 := Lib.hid hl5; have HD5 := Lib.hid hd5
        have qo5 := ops_any c b s4 w5 hd5
        have qg5 := groups_any g c T5 _ _ w5 hl5
        have hg0 : (((logOf [] false).groups : Nat) : Int) = 0 := rfl
        rw [hg0] at qg5
        clear q5 qo hl5 hd5 hm5 hB5 hT5 HB4 HT4 hg0
        go_wp2_with fail
        refine qo5.mono ?_
        rintro e w5' ⟨rfl, rfl⟩
        go_wp2_with fail
        refine qg5.mono ?_
        rintro e w5' ⟨rfl, rfl⟩
        obtain ⟨W6, hW6⟩ : ∃ W, w5.alloc (.cells (mz k) 5) = W := ⟨_, rfl⟩
        have hB56 : Below w.heap.size w W6 := by rw [← hW6]; exact HB5.out.alloc HB5.out.size _
        have hl6 : LogAt g c T5 ⟨#[119]⟩ (logOf [] false) W6 := by rw [← hW6]; exact HL5.out.alloc _
        have hd6 : DkAt c b s4 W6 := by rw [← hW6]; exact HD5.out.alloc _
        obtain ⟨G1, s6, e6, ho6, hfl6, hsz6, hln6, hG6⟩ := commit_one HO4.out HLZ.out (by have := HKL.out; rw [size_nil, total_cons, total_nil, zeros_size]; show _ + (_ + 9 * 1 + 19) ≤ _; omega)
        have q6 := fun (s : Nat) (hs : s = W6.heap.size) => commit_lit g c b T5 ⟨#[119]⟩ (logOf [] false) s4 [zerosB k] _ _ _ e6 HO4.out.ok 1 rfl #[.string (zerosB k)] rfl 9 s 1 W6 hs hl6 hd6 (by decide) (by have := HKL.out; rw [total_cons, total_nil, zeros_size]; omega) (by decide) (by decide) (by decide) (by decide)
        have HO6 := Lib.hid ho6
        have hq : (1 : Nat) = G1.flatten.length := by rw [hfl6]; rfl
        have hq2 : (1 : Nat) = G1.length := by rw [hG6]; rfl
        rw [size_nil, total_cons, total_nil, zeros_size] at hsz6
        simp only [List.length_cons, List.length_nil] at hsz6
        clear e6 ho6 hfl6 hln6 hG6
        have Q6 := Lib.hid q6; have HQ := Lib.hid hq; have HQ2 := Lib.hid hq2
        have HB6 := Lib.hid hB56
        have hmk := HMK.out
        have hcv := HCV.out w5
        rw [hW6] at hcv
        have hkb := HKB.out
        have hm0 := HM0.out
        have hmin := HMIN.out
        clear q6 hq hq2 qo5 qg5 hl6 hd6 hB56 HL5 HD5 HB5
        go_wp2_with fail
        refine (Q6.out _ rfl).mono ?_
        rintro e w7 ⟨T7, rfl, hl7, hd7, hm7⟩
        obtain ⟨hB7, hT7⟩ := Mv.here HB6.out hm7 hc hb HT5.out
        have HB7 := Lib.hid hB7; have HT7 := Lib.hid hT7
        obtain ⟨G8, s8, e8, ho8, hfl8, hsz8, hln8, hG8⟩ := commit_one HO6.out LO1.out (by have := HKL.out; rw [M1.out]; omega)
        have q8 := commit_at g c b T7 ⟨#[119]⟩ (logOf G1 false) s6 s1 0 _ _ e8 HO6.out.ok m1 M1.out A1 c1 w7 hl7 hd7 w.heap.size (R1.out.below HB7.out) HB7.out.size (fun h0 ad e => by
          obtain ⟨ad', e', hlt, _⟩ := R1.out.2 h0
          rw [e] at e'; injection e' with e'; subst e'
          exact ⟨fun hm => by have := HT7.out _ hm; omega, by omega, by omega⟩) (by decide) (by omega) (by omega) (by show G1.flatten.length ≤ _; have := HQ.out; omega) (by show G1.length ≤ _; have := HQ2.out; omega) (by have := HKL.out; show (fileOf G1).size ≤ _; omega)
        have hgr8 : (((logOf G8 false).groups : Nat) : Int) = ((1 : Nat) : Int) := by
          show ((G8.length : Nat) : Int) = _
          rw [hG8, M1.out]
          rw [if_pos HM.out, ← HQ2.out]
        have hrc8 : (logOf G8 false).recs.length = 1 + m1 := by
          show G8.flatten.length = _
          rw [hfl8, List.length_append, ← HQ.out, M1.out]
        have HGR8 := Lib.hid hgr8; have HRC8 := Lib.hid hrc8
        clear Q6 hmk hcv hW6 hl7 hd7 hm7 hB7 hT7 HB6 HO6 e8 ho8 hfl8 hsz8 hln8 hG8 hgr8 hrc8 HT5 HO4
        go_wp2_with fail
        refine q8.mono ?_
        rintro e w8 ⟨T8, rfl, hl8, hd8, hm8⟩
        obtain ⟨hB8, hT8⟩ := Mv.here HB7.out hm8 hc hb HT7.out
        have HB8 := Lib.hid hB8; have HL8 := Lib.hid hl8
        clear q8 hl8 hd8 hm8 hB8 hT8 HB7 HT7
        go_wp2_with fail
        refine (alive6_any _).mono ?_
        rintro e w9 ⟨rfl, hb9⟩
        have HB9 := Lib.hid (HB8.out.trans (hb9.mono HB8.out.size))
        have hl9 := HL8.out.below hb9
        have qg9 := groups_any g c T8 _ _ w9 hl9
        rw [HGR8.out] at qg9
        have qr9 := records_any g c T8 _ _ w9 hl9 (by rw [HRC8.out]; omega)
        rw [HRC8.out] at qr9
        clear hb9 HB8 hl9 HL8
        go_wp2_with fail
        refine qg9.mono ?_
        rintro e w9' ⟨rfl, rfl⟩
        go_wp2_with fail
        refine qr9.mono ?_
        rintro e w10 ⟨v, rfl, hown, hb10⟩
        have HB10 := Lib.hid (HB9.out.trans (hb10.mono HB9.out.size))
        obtain ⟨A9, c9, rfl, _⟩ := own_form hown
        clear qr9 qg9 hown hb10 HB9
        go_wp2
        go_ret
        exact ⟨rfl, HB10.out⟩
      · have HM0 : Hid (decide ((0 : Int) < (m1 : Int)) = true) := by show _ = _; simp; omega
        have HMIN : Hid (min (m1 : Int) 1 = 1) := by show _ = _; omega
        have HM := Lib.hid h0
        clear h0
        go_enter Tryz.func5, Tryz.ntmps5
        go_wp2_with fail
        refine (Q1.out w (Below.refl _ _)).mono ?_
        rintro e w1 ⟨rfl, hb1⟩
        have HB1 := Lib.hid hb1
        clear hb1
        go_wp2_with fail
        refine (new_any _).mono ?_
        rintro e w3 ⟨c, b, rfl, h3, hc3, hb3, hbel3⟩
        have hz2 := HB1.out.size
        have hc : w.heap.size ≤ c := by omega
        have hb : w.heap.size ≤ b := by omega
        have HB3 := Lib.hid (HB1.out.trans (hbel3.mono hz2))
        have q := openA c b ⟨#[119]⟩ name_w newDk w3 h3 on1_new
        clear hbel3 h3 hc3 hb3 HB1 hz2
        go_wp2_with fail
        refine q.mono ?_
        rintro e w4 ⟨g, T4, s4, rfl, hl4, hd4, ho4, hT4, hm4⟩
        have HB4 := Lib.hid (open_here HB3.out hm4 hc hb)
        have HT4 : Hid (∀ k, k ∈ T4 → w.heap.size ≤ k) := fun k hk => Nat.le_trans HB3.out.size (hT4 k hk)
        have qo := ops_any c b s4 w4 hd4
        have q5 := commit_at g c b T4 ⟨#[119]⟩ (logOf [] false) s4 [] 0 _ _ (commit_empty _ _ _) ho4.ok 0 rfl none 0 w4 hl4 hd4 w.heap.size Reads.none_ HB4.out.size (fun h0 => absurd h0 (by decide)) (by decide) (by decide) (by decide) (by decide) (by decide) (by decide)
        have HO4 := Lib.hid ho4
        clear q hl4 hd4 ho4 hT4 hm4 HB3
        go_wp2_with fail
        refine qo.mono ?_
        rintro e w4' ⟨rfl, rfl⟩
        go_wp2_with fail
        refine q5.mono ?_
        rintro e w5 ⟨T5, rfl, hl5, hd5, hm5⟩
        obtain ⟨hB5, hT5⟩ := Mv.here HB4.out hm5 hc hb HT4.out
        have HB5 := Lib.hid hB5; have HT5 := Lib.hid hT5; have HL5 := Lib.hid hl5; have HD5 := Lib.hid hd5
        have qo5 := ops_any c b s4 w5 hd5
        have qg5 := groups_any g c T5 _ _ w5 hl5
        have hg0 : (((logOf [] false).groups : Nat) : Int) = 0 := rfl
        rw [hg0] at qg5
        clear q5 qo hl5 hd5 hm5 hB5 hT5 HB4 HT4 hg0
        go_wp2_with fail
        refine qo5.mono ?_
        rintro e w5' ⟨rfl, rfl⟩
        go_wp2_with fail
        refine qg5.mono ?_
        rintro e w5' ⟨rfl, rfl⟩
        obtain ⟨W6, hW6⟩ : ∃ W, w5.alloc (.cells (mz k) 5) = W := ⟨_, rfl⟩
        have hB56 : Below w.heap.size w W6 := by rw [← hW6]; exact HB5.out.alloc HB5.out.size _
        have hl6 : LogAt g c T5 ⟨#[119]⟩ (logOf [] false) W6 := by rw [← hW6]; exact HL5.out.alloc _
        have hd6 : DkAt c b s4 W6 := by rw [← hW6]; exact HD5.out.alloc _
        obtain ⟨G1, s6, e6, ho6, hfl6, hsz6, hln6, hG6⟩ := commit_one HO4.out HLZ.out (by have := HKL.out; rw [size_nil, total_cons, total_nil, zeros_size]; show _ + (_ + 9 * 1 + 19) ≤ _; omega)
        have q6 := fun (s : Nat) (hs : s = W6.heap.size) => commit_lit g c b T5 ⟨#[119]⟩ (logOf [] false) s4 [zerosB k] _ _ _ e6 HO4.out.ok 1 rfl #[.string (zerosB k)] rfl 9 s 1 W6 hs hl6 hd6 (by decide) (by have := HKL.out; rw [total_cons, total_nil, zeros_size]; omega) (by decide) (by decide) (by decide) (by decide)
        have HO6 := Lib.hid ho6
        have hq : (1 : Nat) = G1.flatten.length := by rw [hfl6]; rfl
        have hq2 : (1 : Nat) = G1.length := by rw [hG6]; rfl
        rw [size_nil, total_cons, total_nil, zeros_size] at hsz6
        simp only [List.length_cons, List.length_nil] at hsz6
        clear e6 ho6 hfl6 hln6 hG6
        have Q6 := Lib.hid q6; have HQ := Lib.hid hq; have HQ2 := Lib.hid hq2
        have HB6 := Lib.hid hB56
        have hmk := HMK.out
        have hcv := HCV.out w5
        rw [hW6] at hcv
        have hkb := HKB.out
        have hm0 := HM0.out
        have hmin := HMIN.out
        clear q6 hq hq2 qo5 qg5 hl6 hd6 hB56 HL5 HD5 HB5
        go_wp2_with fail
        refine (Q6.out _ rfl).mono ?_
        rintro e w7 ⟨T7, rfl, hl7, hd7, hm7⟩
        obtain ⟨hB7, hT7⟩ := Mv.here HB6.out hm7 hc hb HT5.out
        have HB7 := Lib.hid hB7; have HT7 := Lib.hid hT7
        obtain ⟨G8, s8, e8, ho8, hfl8, hsz8, hln8, hG8⟩ := commit_one HO6.out LO1.out (by have := HKL.out; rw [M1.out]; omega)
        have q8 := commit_at g c b T7 ⟨#[119]⟩ (logOf G1 false) s6 s1 0 _ _ e8 HO6.out.ok m1 M1.out A1 c1 w7 hl7 hd7 w.heap.size (R1.out.below HB7.out) HB7.out.size (fun h0 ad e => by
          obtain ⟨ad', e', hlt, _⟩ := R1.out.2 h0
          rw [e] at e'; injection e' with e'; subst e'
          exact ⟨fun hm => by have := HT7.out _ hm; omega, by omega, by omega⟩) (by decide) (by omega) (by omega) (by show G1.flatten.length ≤ _; have := HQ.out; omega) (by show G1.length ≤ _; have := HQ2.out; omega) (by have := HKL.out; show (fileOf G1).size ≤ _; omega)
        have hgr8 : (((logOf G8 false).groups : Nat) : Int) = ((2 : Nat) : Int) := by
          show ((G8.length : Nat) : Int) = _
          rw [hG8, M1.out]
          rw [if_neg HM.out, List.length_append, ← HQ2.out]; rfl
        have hrc8 : (logOf G8 false).recs.length = 1 + m1 := by
          show G8.flatten.length = _
          rw [hfl8, List.length_append, ← HQ.out, M1.out]
        have HGR8 := Lib.hid hgr8; have HRC8 := Lib.hid hrc8
        clear Q6 hmk hcv hW6 hl7 hd7 hm7 hB7 hT7 HB6 HO6 e8 ho8 hfl8 hsz8 hln8 hG8 hgr8 hrc8 HT5 HO4
        go_wp2_with fail
        refine q8.mono ?_
        rintro e w8 ⟨T8, rfl, hl8, hd8, hm8⟩
        obtain ⟨hB8, hT8⟩ := Mv.here HB7.out hm8 hc hb HT7.out
        have HB8 := Lib.hid hB8; have HL8 := Lib.hid hl8
        clear q8 hl8 hd8 hm8 hB8 hT8 HB7 HT7
        go_wp2_with fail
        refine (alive6_any _).mono ?_
        rintro e w9 ⟨rfl, hb9⟩
        have HB9 := Lib.hid (HB8.out.trans (hb9.mono HB8.out.size))
        have hl9 := HL8.out.below hb9
        have qg9 := groups_any g c T8 _ _ w9 hl9
        rw [HGR8.out] at qg9
        have qr9 := records_any g c T8 _ _ w9 hl9 (by rw [HRC8.out]; omega)
        rw [HRC8.out] at qr9
        clear hb9 HB8 hl9 HL8
        go_wp2_with fail
        refine qg9.mono ?_
        rintro e w9' ⟨rfl, rfl⟩
        go_wp2_with fail
        refine qr9.mono ?_
        rintro e w10 ⟨v, rfl, hown, hb10⟩
        have HB10 := Lib.hid (HB9.out.trans (hb10.mono HB9.out.size))
        obtain ⟨A9, c9, rfl, _⟩ := own_form hown
        clear qr9 qg9 hown hb10 HB9
        go_wp2
        go_ret
        exact ⟨rfl, HB10.out⟩
end Go.Proofs.YtfmbadinfhpihaaGreat
