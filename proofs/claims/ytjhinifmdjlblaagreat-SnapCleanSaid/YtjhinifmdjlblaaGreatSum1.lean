/-
  Package sum's small functions as contracts: four, num, Crc.
  Conditions: a number below 2^32; four bytes at hand; texts within what a slice and a string may have.
-/
import Derived.Test.YtjhinifmdjlblaaGreatRoom
import Derived.Test.YtjhinifmdjlblaaGreatSameT
import Derived.Test.YtjhinifmdjlblaaGreatSumPlain
import Derived.Test.YtjhinifmdjlblaaGreatBytes
import Derived.WalkSpells
import Derived.WalkLawsBesides
import Derived.Outline
namespace Go.Proofs.YtjhinifmdjlblaaGreat.Sm
open Go.RowKit

theorem four_any (n : Nat) (hn : n < 4294967296) (w : World) :
    Calls Tryz.prog 113 #[.int .i64 n] w fun e w' => e = .returned (.string ⟨(Sum.four n).toArray⟩) ∧ Below w.heap.size w w' := by
  have hcv : ∀ W : World, (convert 39 9 (.slice (some ⟨W.heap.size, 0, none⟩) 4 4)).run Tryz.prog (W.alloc (.cells #[.int .u8 ((n : Int) / 16777216), .int .u8 ((n : Int) / 65536 % 256), .int .u8 ((n : Int) / 256 % 256), .int .u8 ((n : Int) % 256)] 5)) =
      .ok (.string ⟨(Sum.four n).toArray⟩) (W.alloc (.cells #[.int .u8 ((n : Int) / 16777216), .int .u8 ((n : Int) / 65536 % 256), .int .u8 ((n : Int) / 256 % 256), .int .u8 ((n : Int) % 256)] 5)) := by
    intro W
    refine run_bytes_string (l := Sum.four n) (B := W.heap.size + 1) _ Tryz.underlying39 Tryz.underlying5 Tryz.underlying9 rfl ⟨rfl, fun _ => ⟨_, rfl, by simp, fun j u hu => ?_⟩⟩
    have hb : Lib.byteCells (Sum.four n) = [.int .u8 ((n : Int) / 16777216), .int .u8 ((n : Int) / 65536 % 256), .int .u8 ((n : Int) / 256 % 256), .int .u8 ((n : Int) % 256)] := by
      simp only [Lib.byteCells, Sum.four, List.map_cons, List.map_nil, UInt8.toNat_ofNat', List.cons.injEq, Value.int.injEq, true_and, and_true]
      refine ⟨?_, ?_, ?_, ?_⟩ <;> omega
    rw [hb] at hu
    match j, hu with
    | 0, hu => simp at hu; subst hu; simp [go_sem]
    | 1, hu => simp at hu; subst hu; simp [go_sem]
    | 2, hu => simp at hu; subst hu; simp [go_sem]
    | 3, hu => simp at hu; subst hu; simp [go_sem]
    | j + 4, hu => simp at hu
  have h0 : (n : Int) / 16777216 ≤ 255 := by omega
  go_enter Tryz.func113, Tryz.ntmps113
  go_wp2
  go_ret
  exact ⟨rfl, (Below.refl _ _).alloc (Nat.le_refl _) _⟩

theorem num_any (s : ByteArray) (h4 : 4 ≤ s.size) (w : World) :
    Calls Tryz.prog 77 #[.string s] w fun e w' => e = .returned (.int .i64 (Sum.num s.data.toList)) ∧ ∃ q, w' = w.drewN q := by
  have h0 : 0 < s.size := by omega
  have h1 : (1 : Int) < s.size := by omega
  have h2 : (2 : Int) < s.size := by omega
  have h3 : (3 : Int) < s.size := by omega
  have b0 := s[0].toNat_lt
  have b1 := s[1].toNat_lt
  have b2 := s[2].toNat_lt
  have b3 := s[3].toNat_lt
  have hnum : Sum.num s.data.toList = s[0].toNat * 16777216 + s[1].toNat * 65536 + s[2].toNat * 256 + s[3].toNat := by
    have e : s.data.toList = s[0] :: s[1] :: s[2] :: s[3] :: s.data.toList.drop 4 := by
      have e0 : s.data.toList[0]? = some s[0] := byte_at s (by omega)
      have e1 : s.data.toList[1]? = some s[1] := byte_at s (by omega)
      have e2 : s.data.toList[2]? = some s[2] := byte_at s (by omega)
      have e3 : s.data.toList[3]? = some s[3] := byte_at s (by omega)
      rw [← drop_cons e3, ← drop_cons e2, ← drop_cons e1, ← drop_cons e0]
      rfl
    conv => lhs; rw [e]
    rfl
  have HN := Lib.hid hnum; clear hnum
  have e0 : IntKind.i64.wrap ↑s[0].toNat = s[0].toNat := IntWalk.i64_in _ (by omega)
  have e0' : IntKind.i64.wrap (↑s[0].toNat * 16777216) = ↑s[0].toNat * 16777216 := IntWalk.i64_in _ (by omega)
  have e1 : IntKind.i64.wrap ↑s[1].toNat = s[1].toNat := IntWalk.i64_in _ (by omega)
  have e1' : IntKind.i64.wrap (↑s[1].toNat * 65536) = ↑s[1].toNat * 65536 := IntWalk.i64_in _ (by omega)
  have e2 : IntKind.i64.wrap ↑s[2].toNat = s[2].toNat := IntWalk.i64_in _ (by omega)
  have e2' : IntKind.i64.wrap (↑s[2].toNat * 256) = ↑s[2].toNat * 256 := IntWalk.i64_in _ (by omega)
  have e3 : IntKind.i64.wrap ↑s[3].toNat = s[3].toNat := IntWalk.i64_in _ (by omega)
  have o1 : bits .or .i64 ((s[0].toNat : Int) * 16777216) ((s[1].toNat : Int) * 65536) = ((s[0].toNat * 16777216 + s[1].toNat * 65536 : Nat) : Int) :=
    i64_join 24 (s[0].toNat * 16777216) (s[1].toNat * 65536) (by omega) (by omega) (by omega) (by omega)
  have o2 : bits .or .i64 ((s[0].toNat * 16777216 + s[1].toNat * 65536 : Nat) : Int) ((s[2].toNat : Int) * 256) = ((s[0].toNat * 16777216 + s[1].toNat * 65536 + s[2].toNat * 256 : Nat) : Int) :=
    i64_join 16 (s[0].toNat * 16777216 + s[1].toNat * 65536) (s[2].toNat * 256) (by omega) (by omega) (by omega) (by omega)
  have o3 : bits .or .i64 ((s[0].toNat * 16777216 + s[1].toNat * 65536 + s[2].toNat * 256 : Nat) : Int) (s[3].toNat : Int) = ((s[0].toNat * 16777216 + s[1].toNat * 65536 + s[2].toNat * 256 + s[3].toNat : Nat) : Int) :=
    i64_join 8 (s[0].toNat * 16777216 + s[1].toNat * 65536 + s[2].toNat * 256) (s[3].toNat) (by omega) (by omega) (by omega) (by omega)
  have O1 := Lib.hid o1; clear o1
  have O2 := Lib.hid o2; clear o2
  have O3 := Lib.hid o3; clear o3
  go_enter Tryz.func77, Tryz.ntmps77
  go_wp2
  go_quiet (fail)
  go_wp2
  go_ret
  refine ⟨ret_int ?_, _, rfl⟩
  rw [O1.out, O2.out, O3.out, HN.out]

/-! ### Crc -/
def cat (ss : List ByteArray) : List UInt8 := ss.flatMap (·.data.toList)
theorem cat_nil : cat [] = [] := rfl
theorem cat_cons (s : ByteArray) (ss : List ByteArray) : cat (s :: ss) = s.data.toList ++ cat ss := by simp [cat]
theorem cat_append (a b : List ByteArray) : cat (a ++ b) = cat a ++ cat b := by simp [cat]
theorem cat_snoc (a : List ByteArray) (s : ByteArray) : cat (a ++ [s]) = cat a ++ s.data.toList := by simp [cat]
theorem cat_length (ss : List ByteArray) : (cat ss).length = total ss := by
  induction ss with
  | nil => rfl
  | cons s ss ih => rw [cat_cons, total_cons, List.length_append, ih, len_data]
theorem not_u32 (x : Nat) (h : x < 4294967296) : bits .xor .u32 4294967295 (x : Int) = ((4294967295 - x : Nat) : Int) := by
  have h1 := u32_xor_nat 4294967295 x (by decide) h
  have h2 : 4294967295 ^^^ x = 4294967295 - x := by
    have h3 : (BitVec.allOnes 32 ^^^ BitVec.ofNat 32 x).toNat = (~~~ BitVec.ofNat 32 x).toNat := by rw [BitVec.allOnes_xor]
    rw [BitVec.toNat_xor, BitVec.toNat_not, BitVec.toNat_allOnes, BitVec.toNat_ofNat, Nat.mod_eq_of_lt h] at h3
    exact h3
  rw [h2] at h1
  exact h1

set_option maxHeartbeats 1000000 in
theorem crc_any (ss : List ByteArray) (A : Option Addr) (c B : Nat) (w : World) (hr : Reads w B 1 A ss.length (strs ss)) (hl : ss.length ≤ 9223372036854775807) (hs : ∀ s ∈ ss, s.size ≤ 9223372036854775807) :
    Calls Tryz.prog 78 #[.slice A ss.length c] w fun e w' => e = .returned (.int .i64 (Sum.crc (cat ss))) ∧ w = w' := by
  generalize hn : ss.length = n at *
  have Hn := Lib.hid hn; clear hn
  have Hs := Lib.hid hs; clear hs
  go_enter Tryz.func78, Tryz.ntmps78
  go_wp2
  go_loop [3, 10] (fun x i => ∃ (k X : Nat), k ≤ n ∧ i = .int .i64 k ∧ x = .int .u32 X ∧ X < 4294967296 ∧ Hid (X = Sum.crcFrom 4294967295 (cat (ss.take k)))) (fun _ i => n - (intOf i).toNat)
  case atStart => exact ⟨0, 4294967295, Nat.zero_le _, rfl, rfl, by omega, rfl⟩
  case round =>
    obtain ⟨k, X, hk, rfl, rfl, hX, HX⟩ := hrel
    by_cases hlt : k < n
    · obtain ⟨ad, s, rfl, _, hsk, hc⟩ := str_at hr hlt
      have hss : s.size ≤ 9223372036854775807 := Hs.out s (List.mem_of_getElem? hsk)
      have Hsk := Lib.hid hsk; clear hsk
      go_wp2
      go_loop [3, 16] (fun x i => ∃ (j Y : Nat), j ≤ s.size ∧ i = .int .i64 j ∧ x = .int .u32 Y ∧ Y < 4294967296 ∧ Hid (Y = Sum.crcFrom X (s.data.toList.take j))) (fun _ i => s.size - (intOf i).toNat)
      case atStart => exact ⟨0, X, Nat.zero_le _, rfl, rfl, hX, rfl⟩
      case round =>
        obtain ⟨j, Y, hj, rfl, rfl, hY, HY⟩ := hrel
        by_cases hjt : j < s.size
        · have hb := s[j].toNat_lt
          obtain ⟨Z, hZ, hZ2, HZ⟩ : ∃ Z : Nat, bits .xor .u32 (Y : Int) (s[j].toNat : Int) = (Z : Int) ∧ Z < 4294967296 ∧ Hid (Z = Y ^^^ s[j].toNat) :=
            ⟨_, u32_xor_nat Y s[j].toNat hY (by omega), Sum.xor_lt hY (by omega), rfl⟩
          go_wp2
          go_loop [3, 25] (fun x i => ∃ (m V : Nat), m ≤ 8 ∧ i = .int .i64 m ∧ x = .int .u32 V ∧ V < 4294967296 ∧ Hid (V = Sum.bitN m Z)) (fun _ i => 8 - (intOf i).toNat)
          case atStart => exact ⟨0, Z, Nat.zero_le _, rfl, rfl, hZ2, rfl⟩
          case round =>
            obtain ⟨m, V, hm, rfl, rfl, hV, HV⟩ := hrel
            clear hZ
            by_cases hmt : m < 8
            · have hV2 := Sum.bit_lt hV
              have hand := u32_and_nat V 1 hV (by decide)
              rw [nat_mask1] at hand
              by_cases ho : V % 2 = 1
              · rw [ho] at hand
                obtain ⟨T, hT, hT2, HT⟩ : ∃ T : Nat, bits .xor .u32 ((V : Int) / 2) 3988292384 = (T : Int) ∧ T < 4294967296 ∧ Hid (T = Sum.bit V) :=
                  ⟨_, u32_xor_nat (V / 2) 3988292384 (by omega) (by decide), Sum.xor_lt (by omega) (by decide), by simp [Hid, Sum.bit, ho]⟩
                have Ho := Lib.hid ho; clear ho
                have hand1 : bits .and .u32 (V : Int) 1 = 1 := hand
                clear hand
                go_wp2
                go_round
                case rel => exact ⟨m + 1, T, by omega, by go_num, rfl, hT2, by show _ = _; rw [HT.out, HV.out]; rfl⟩
                case measure => simp [intOf]; omega
              · have ho' : V % 2 = 0 := by omega
                rw [ho'] at hand
                have hand1 : bits .and .u32 (V : Int) 1 = 0 := hand
                have hbit : Sum.bit V = V / 2 := by simp [Sum.bit, ho']
                have Hbit := Lib.hid hbit; clear hbit ho ho' hand
                go_wp2
                go_round
                case rel => exact ⟨m + 1, V / 2, by omega, by go_num, rfl, by omega, by show _ = _; rw [← Hbit.out, HV.out]; rfl⟩
                case measure => simp [intOf]; omega
            · go_wp2
              go_round
              case rel =>
                refine ⟨j + 1, V, by omega, by go_num, rfl, hV, ?_⟩
                show _ = _
                rw [take_snoc (byte_at s hjt), Sum.crcFrom_append, ← HY.out, HV.out, show m = 8 from by omega, HZ.out]
                rfl
              case measure => simp [intOf]; omega
        · go_wp2
          go_round
          case rel =>
            refine ⟨k + 1, Y, by omega, by go_num, rfl, hY, ?_⟩
            show _ = _
            have h1 := HY.out
            rw [List.take_of_length_le (by rw [len_data]; omega)] at h1
            rw [take_snoc Hsk.out, cat_snoc, Sum.crcFrom_append, ← HX.out]
            exact h1
          case measure => simp [intOf]; omega
    · obtain ⟨R, hR, hR2, HR⟩ : ∃ R : Nat, bits .xor .u32 IntKind.u32.max (X : Int) = (R : Int) ∧ R < 4294967296 ∧ Hid (R = 4294967295 - X) :=
        ⟨_, not_u32 X hX, by omega, rfl⟩
      go_wp2
      go_ret
      refine ⟨ret_int ?_, rfl⟩
      have h1 := HX.out
      rw [List.take_of_length_le (by have := Hn.out; omega)] at h1
      rw [IntWalk.wrap64_in (R : Int) ⟨by omega, by omega⟩, HR.out, h1]
      rfl
end Go.Proofs.YtjhinifmdjlblaaGreat.Sm
