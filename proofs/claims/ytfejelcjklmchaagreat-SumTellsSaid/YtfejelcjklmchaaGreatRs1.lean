/-
  The document's sum (complineref1): four, fours, Crc as contracts.
  Conditions: a number below 2^32; four bytes at hand; a text within what a string may have.
-/
import Derived.Test.YtfejelcjklmchaaGreatSum1
namespace Go.Proofs.YtfejelcjklmchaaGreat
open Go.RowKit

theorem i64_xor_nat (a b : Nat) (ha : a < 9223372036854775808) (hb : b < 9223372036854775808) : bits .xor .i64 (a : Int) (b : Int) = ((a ^^^ b : Nat) : Int) := by
  have hx : a ^^^ b < 2 ^ 63 := Nat.xor_lt_two_pow (by omega) (by omega)
  show IntKind.i64.wrap ((BitVec.ofInt 64 (a : Int) ^^^ BitVec.ofInt 64 (b : Int)).toNat : Int) = _
  rw [BitVec.toNat_xor, ofInt_i64' a ha, ofInt_i64' b hb, IntKind.wrap_i64]
  omega
theorem rfour_any (n : Nat) (hn : n < 4294967296) (w : World) :
    Calls Tryz.prog 25 #[.int .i64 n] w fun e w' => e = .returned (.string ⟨(Sum.four n).toArray⟩) ∧ Below w.heap.size w w' := by
  have hcv : ∀ W : World, (convert 60 9 (.slice (some ⟨W.heap.size, 0, none⟩) 4 4)).run Tryz.prog (W.alloc (.cells #[.int .u8 ((n : Int) / 16777216), .int .u8 ((n : Int) / 65536 % 256), .int .u8 ((n : Int) / 256 % 256), .int .u8 ((n : Int) % 256)] 5)) =
      .ok (.string ⟨(Sum.four n).toArray⟩) (W.alloc (.cells #[.int .u8 ((n : Int) / 16777216), .int .u8 ((n : Int) / 65536 % 256), .int .u8 ((n : Int) / 256 % 256), .int .u8 ((n : Int) % 256)] 5)) := by
    intro W
    refine run_bytes_string (l := Sum.four n) (B := W.heap.size + 1) _ Tryz.underlying60 Tryz.underlying5 Tryz.underlying9 rfl ⟨rfl, fun _ => ⟨_, rfl, by simp, fun j u hu => ?_⟩⟩
    have hb : Lib.byteCells (Sum.four n) = [.int .u8 ((n : Int) / 16777216), .int .u8 ((n : Int) / 65536 % 256), .int .u8 ((n : Int) / 256 % 256), .int .u8 ((n : Int) % 256)] := by
      simp only [Lib.byteCells, Sum.four, List.map_cons, List.map_nil, UInt8.toNat_ofNat', List.cons.injEq, Value.int.injEq, true_and, and_true]
      refine ⟨?_, ?_, ?_, ?_⟩ <;> omega
    rw [hb] at hu
    match j, hu with
    | 0, hu => simp at hu; subst hu; simp [go_sem]
    | 1, hu => simp at hu; subst hu; simp [go_sem]
    | 2, hu => simp at hu; subst hu; simp [go_sem]
    | 3, hu => simp at hu; subst hu; simp [go_sem]
    | j + 4, hu => simp at hu
  have h0 : (n : Int) / 16777216 ≤ 255 := by omega
  go_enter Tryz.func25, Tryz.ntmps25
  go_wp2
  go_ret
  exact ⟨rfl, (Below.refl _ _).alloc (Nat.le_refl _) _⟩
theorem rfours_any (s : ByteArray) (h4 : 4 ≤ s.size) (l : List UInt8) (hl : s.data.toList = l) (w : World) :
    Calls Tryz.prog 19 #[.string s] w fun e w' => e = .returned (.int .i64 (Sum.num l)) ∧ ∃ q, w' = w.drewN q := by
  subst hl
  have h0 : 0 < s.size := by omega
  have h1 : (1 : Int) < s.size := by omega
  have h2 : (2 : Int) < s.size := by omega
  have h3 : (3 : Int) < s.size := by omega
  have b0 := s[0].toNat_lt
  have b1 := s[1].toNat_lt
  have b2 := s[2].toNat_lt
  have b3 := s[3].toNat_lt
  have hnum : Sum.num s.data.toList = s[0].toNat * 16777216 + s[1].toNat * 65536 + s[2].toNat * 256 + s[3].toNat := by
    have e : s.data.toList = s[0] :: s[1] :: s[2] :: s[3] :: s.data.toList.drop 4 := by
      have e0 : s.data.toList[0]? = some s[0] := byte_at s (by omega)
      have e1 : s.data.toList[1]? = some s[1] := byte_at s (by omega)
      have e2 : s.data.toList[2]? = some s[2] := byte_at s (by omega)
      have e3 : s.data.toList[3]? = some s[3] := byte_at s (by omega)
      rw [← drop_cons e3, ← drop_cons e2, ← drop_cons e1, ← drop_cons e0]
      rfl
    conv => lhs; rw [e]
    rfl
  obtain ⟨p0, hp0⟩ : ∃ p : Nat, p = s[0].toNat * 16777216 := ⟨_, rfl⟩
  obtain ⟨p1, hp1⟩ : ∃ p : Nat, p = s[1].toNat * 65536 := ⟨_, rfl⟩
  obtain ⟨p2, hp2⟩ : ∃ p : Nat, p = s[2].toNat * 256 := ⟨_, rfl⟩
  obtain ⟨q1, hq1⟩ : ∃ p : Nat, p = p0 + p1 := ⟨_, rfl⟩
  obtain ⟨q2, hq2⟩ : ∃ p : Nat, p = q1 + p2 := ⟨_, rfl⟩
  obtain ⟨q3, hq3⟩ : ∃ p : Nat, p = q2 + s[3].toNat := ⟨_, rfl⟩
  rw [← hp0, ← hp1, ← hp2, ← hq1, ← hq2, ← hq3] at hnum
  have HN := Lib.hid hnum; clear hnum
  have e0 : IntKind.i64.wrap ↑s[0].toNat = s[0].toNat := IntWalk.i64_in _ (by omega)
  have e0' : IntKind.i64.wrap (↑s[0].toNat * 16777216) = (p0 : Int) := (IntWalk.i64_in _ (by omega)).trans (by omega)
  have e1 : IntKind.i64.wrap ↑s[1].toNat = s[1].toNat := IntWalk.i64_in _ (by omega)
  have e1' : IntKind.i64.wrap (↑s[1].toNat * 65536) = (p1 : Int) := (IntWalk.i64_in _ (by omega)).trans (by omega)
  have e2 : IntKind.i64.wrap ↑s[2].toNat = s[2].toNat := IntWalk.i64_in _ (by omega)
  have e2' : IntKind.i64.wrap (↑s[2].toNat * 256) = (p2 : Int) := (IntWalk.i64_in _ (by omega)).trans (by omega)
  have e3 : IntKind.i64.wrap ↑s[3].toNat = s[3].toNat := IntWalk.i64_in _ (by omega)
  have o1 : (p0 : Int) + (p1 : Int) = (q1 : Int) := by omega
  have o2 : (q1 : Int) + (p2 : Int) = (q2 : Int) := by omega
  have o3 : (q2 : Int) + (s[3].toNat : Int) = (q3 : Int) := by omega
  have r1 : q1 < 4294967296 := by omega
  have r2 : q2 < 4294967296 := by omega
  have r3 : q3 < 4294967296 := by omega
  clear hp0 hp1 hp2 hq1 hq2 hq3
  go_enter Tryz.func19, Tryz.ntmps19
  go_wp2
  go_quiet (fail)
  go_wp2
  go_ret
  refine ⟨ret_int ?_, _, rfl⟩
  rw [HN.out]
set_option maxHeartbeats 1000000 in
theorem rcrc_any (s : ByteArray) (l : List UInt8) (hl : s.data.toList = l) (hs : s.size ≤ 9223372036854775807) (w : World) :
    Calls Tryz.prog 10 #[.string s] w fun e w' => e = .returned (.int .i64 (Sum.crc l)) ∧ w = w' := by
  subst hl
  go_enter Tryz.func10, Tryz.ntmps10
  go_wp2
  go_loop [3, 4] (fun x i => ∃ (j Y : Nat), j ≤ s.size ∧ i = .int .i64 j ∧ x = .int .i64 Y ∧ Y < 4294967296 ∧ Hid (Y = Sum.crcFrom 4294967295 (s.data.toList.take j))) (fun _ i => s.size - (intOf i).toNat)
  case atStart => exact ⟨0, 4294967295, Nat.zero_le _, rfl, rfl, by omega, rfl⟩
  case round =>
    obtain ⟨j, Y, hj, rfl, rfl, hY, HY⟩ := hrel
    by_cases hjt : j < s.size
    · have hb := s[j].toNat_lt
      obtain ⟨Z, hZ, hZ2, HZ⟩ : ∃ Z : Nat, bits .xor .i64 (Y : Int) (s[j].toNat : Int) = (Z : Int) ∧ Z < 4294967296 ∧ Hid (Z = Y ^^^ s[j].toNat) :=
        ⟨_, i64_xor_nat Y s[j].toNat (by omega) (by omega), Sum.xor_lt hY (by omega), rfl⟩
      have hw1 : IntKind.i64.wrap ↑s[j].toNat = s[j].toNat := IntWalk.i64_in _ (by omega)
      go_wp2
      go_loop [3, 5] (fun x i => ∃ (m V : Nat), m ≤ 8 ∧ i = .int .i64 m ∧ x = .int .i64 V ∧ V < 4294967296 ∧ Hid (V = Sum.bitN m Z)) (fun _ i => 8 - (intOf i).toNat)
      case atStart => exact ⟨0, Z, Nat.zero_le _, rfl, rfl, hZ2, rfl⟩
      case round =>
        obtain ⟨m, V, hm, rfl, rfl, hV, HV⟩ := hrel
        clear hZ
        by_cases hmt : m < 8
        · have hV2 := Sum.bit_lt hV
          by_cases ho : V % 2 = 1
          · obtain ⟨T, hT, hT2, HT⟩ : ∃ T : Nat, bits .xor .i64 ((V : Int) / 2) 3988292384 = (T : Int) ∧ T < 4294967296 ∧ Hid (T = Sum.bit V) :=
              ⟨_, i64_xor_nat (V / 2) 3988292384 (by omega) (by decide), Sum.xor_lt (by omega) (by decide), by simp [Hid, Sum.bit, ho]⟩
            have ho1 : (V : Int) % 2 = 1 := by omega
            clear ho
            go_wp2
            go_round
            case rel => exact ⟨m + 1, T, by omega, by go_num, rfl, hT2, by show _ = _; rw [HT.out, HV.out]; rfl⟩
            case measure => simp [intOf]; omega
          · have ho' : V % 2 = 0 := by omega
            have ho1 : (V : Int) % 2 = 0 := by omega
            have hbit : Sum.bit V = V / 2 := by simp [Sum.bit, ho']
            have Hbit := Lib.hid hbit; clear hbit ho ho'
            go_wp2
            go_round
            case rel => exact ⟨m + 1, V / 2, by omega, by go_num, rfl, by omega, by show _ = _; rw [← Hbit.out, HV.out]; rfl⟩
            case measure => simp [intOf]; omega
        · go_wp2
          go_round
          case rel =>
            refine ⟨j + 1, V, by omega, by go_num, rfl, hV, ?_⟩
            show _ = _
            rw [take_snoc (byte_at s hjt), Sum.crcFrom_append, ← HY.out, HV.out, show m = 8 from by omega, HZ.out]
            rfl
          case measure => simp [intOf]; omega
    · go_wp2
      go_ret
      refine ⟨ret_int ?_, rfl⟩
      have h1 := HY.out
      rw [List.take_of_length_le (by rw [len_data]; omega)] at h1
      unfold Sum.crc
      rw [← h1]
      omega
end Go.Proofs.YtfejelcjklmchaaGreat
