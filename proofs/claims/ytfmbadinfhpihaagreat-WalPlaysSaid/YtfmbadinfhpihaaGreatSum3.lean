/-
  Package sum's Scan as a contract: what it finds in bytes is what the plain law finds.
  Conditions: bytes of at most 10^9.
-/
import Derived.Test.YtfmbadinfhpihaaGreatBuilder
import Derived.Test.YtfmbadinfhpihaaGreatWalPlain
import Derived.WalkSpells
import Derived.WalkLawsBesides
import Derived.Outline
import Derived.Deep.RegionHeld3
import Derived.Deep.DrawnRows
set_option linter.unusedVariables false
set_option linter.unusedSimpArgs false
namespace Go.Proofs.YtfmbadinfhpihaaGreat.Sm
open Go.RowKit

theorem four_any (n : Nat) (hn : n < 4294967296) (w : World) :
    Calls Tryz.prog 207 #[.int .i64 n] w fun e w' => e = .returned (.string ⟨(Sum.four n).toArray⟩) ∧ Below w.heap.size w w' := by
  have hcv : ∀ W : World, (convert 48 9 (.slice (some ⟨W.heap.size, 0, none⟩) 4 4)).run Tryz.prog (W.alloc (.cells #[.int .u8 ((n : Int) / 16777216), .int .u8 ((n : Int) / 65536 % 256), .int .u8 ((n : Int) / 256 % 256), .int .u8 ((n : Int) % 256)] 5)) =
      .ok (.string ⟨(Sum.four n).toArray⟩) (W.alloc (.cells #[.int .u8 ((n : Int) / 16777216), .int .u8 ((n : Int) / 65536 % 256), .int .u8 ((n : Int) / 256 % 256), .int .u8 ((n : Int) % 256)] 5)) := by
    intro W
    refine run_bytes_string (l := Sum.four n) (B := W.heap.size + 1) _ Tryz.underlying48 Tryz.underlying5 Tryz.underlying9 rfl ⟨rfl, fun _ => ⟨_, rfl, by simp, fun j u hu => ?_⟩⟩
    have hb : Lib.byteCells (Sum.four n) = [.int .u8 ((n : Int) / 16777216), .int .u8 ((n : Int) / 65536 % 256), .int .u8 ((n : Int) / 256 % 256), .int .u8 ((n : Int) % 256)] := by
      simp only [Lib.byteCells, Sum.four, List.map_cons, List.map_nil, UInt8.toNat_ofNat', List.cons.injEq, Value.int.injEq, true_and, and_true]
      refine ⟨?_, ?_, ?_, ?_⟩ <;> omega
    rw [hb] at hu
    match j, hu with
    | 0, hu => simp at hu; subst hu; simp [go_sem]
    | 1, hu => simp at hu; subst hu; simp [go_sem]
    | 2, hu => simp at hu; subst hu; simp [go_sem]
    | 3, hu => simp at hu; subst hu; simp [go_sem]
    | j + 4, hu => simp at hu
  have h0 : (n : Int) / 16777216 ≤ 255 := by omega
  go_enter Tryz.func207, Tryz.ntmps207
  go_wp2
  go_ret
  exact ⟨rfl, (Below.refl _ _).alloc (Nat.le_refl _) _⟩

theorem num_any (s : ByteArray) (h4 : 4 ≤ s.size) (w : World) :
    Calls Tryz.prog 204 #[.string s] w fun e w' => e = .returned (.int .i64 (Sum.num s.data.toList)) ∧ ∃ q, w' = w.drewN q := by
  have h0 : 0 < s.size := by omega
  have h1 : (1 : Int) < s.size := by omega
  have h2 : (2 : Int) < s.size := by omega
  have h3 : (3 : Int) < s.size := by omega
  have b0 := s[0].toNat_lt
  have b1 := s[1].toNat_lt
  have b2 := s[2].toNat_lt
  have b3 := s[3].toNat_lt
  have hnum : Sum.num s.data.toList = s[0].toNat * 16777216 + s[1].toNat * 65536 + s[2].toNat * 256 + s[3].toNat := by
    have e : s.data.toList = s[0] :: s[1] :: s[2] :: s[3] :: s.data.toList.drop 4 := by
      have e0 : s.data.toList[0]? = some s[0] := byte_at s (by omega)
      have e1 : s.data.toList[1]? = some s[1] := byte_at s (by omega)
      have e2 : s.data.toList[2]? = some s[2] := byte_at s (by omega)
      have e3 : s.data.toList[3]? = some s[3] := byte_at s (by omega)
      rw [← drop_cons e3, ← drop_cons e2, ← drop_cons e1, ← drop_cons e0]
      rfl
    conv => lhs; rw [e]
    rfl
  have HN := Lib.hid hnum; clear hnum
  have e0 : IntKind.i64.wrap ↑s[0].toNat = s[0].toNat := IntWalk.i64_in _ (by omega)
  have e0' : IntKind.i64.wrap (↑s[0].toNat * 16777216) = ↑s[0].toNat * 16777216 := IntWalk.i64_in _ (by omega)
  have e1 : IntKind.i64.wrap ↑s[1].toNat = s[1].toNat := IntWalk.i64_in _ (by omega)
  have e1' : IntKind.i64.wrap (↑s[1].toNat * 65536) = ↑s[1].toNat * 65536 := IntWalk.i64_in _ (by omega)
  have e2 : IntKind.i64.wrap ↑s[2].toNat = s[2].toNat := IntWalk.i64_in _ (by omega)
  have e2' : IntKind.i64.wrap (↑s[2].toNat * 256) = ↑s[2].toNat * 256 := IntWalk.i64_in _ (by omega)
  have e3 : IntKind.i64.wrap ↑s[3].toNat = s[3].toNat := IntWalk.i64_in _ (by omega)
  have o1 : bits .or .i64 ((s[0].toNat : Int) * 16777216) ((s[1].toNat : Int) * 65536) = ((s[0].toNat * 16777216 + s[1].toNat * 65536 : Nat) : Int) :=
    i64_join 24 (s[0].toNat * 16777216) (s[1].toNat * 65536) (by omega) (by omega) (by omega) (by omega)
  have o2 : bits .or .i64 ((s[0].toNat * 16777216 + s[1].toNat * 65536 : Nat) : Int) ((s[2].toNat : Int) * 256) = ((s[0].toNat * 16777216 + s[1].toNat * 65536 + s[2].toNat * 256 : Nat) : Int) :=
    i64_join 16 (s[0].toNat * 16777216 + s[1].toNat * 65536) (s[2].toNat * 256) (by omega) (by omega) (by omega) (by omega)
  have o3 : bits .or .i64 ((s[0].toNat * 16777216 + s[1].toNat * 65536 + s[2].toNat * 256 : Nat) : Int) (s[3].toNat : Int) = ((s[0].toNat * 16777216 + s[1].toNat * 65536 + s[2].toNat * 256 + s[3].toNat : Nat) : Int) :=
    i64_join 8 (s[0].toNat * 16777216 + s[1].toNat * 65536 + s[2].toNat * 256) (s[3].toNat) (by omega) (by omega) (by omega) (by omega)
  have O1 := Lib.hid o1; clear o1
  have O2 := Lib.hid o2; clear o2
  have O3 := Lib.hid o3; clear o3
  go_enter Tryz.func204, Tryz.ntmps204
  go_wp2
  go_quiet (fail)
  go_wp2
  go_ret
  refine ⟨ret_int ?_, _, rfl⟩
  rw [O1.out, O2.out, O3.out, HN.out]

/-! ### Crc -/
def cat (ss : List ByteArray) : List UInt8 := ss.flatMap (·.data.toList)
theorem cat_nil : cat [] = [] := rfl
theorem cat_cons (s : ByteArray) (ss : List ByteArray) : cat (s :: ss) = s.data.toList ++ cat ss := by simp [cat]
theorem cat_append (a b : List ByteArray) : cat (a ++ b) = cat a ++ cat b := by simp [cat]
theorem cat_snoc (a : List ByteArray) (s : ByteArray) : cat (a ++ [s]) = cat a ++ s.data.toList := by simp [cat]
theorem cat_length (ss : List ByteArray) : (cat ss).length = total ss := by
  induction ss with
  | nil => rfl
  | cons s ss ih => rw [cat_cons, total_cons, List.length_append, ih, len_data]
theorem not_u32 (x : Nat) (h : x < 4294967296) : bits .xor .u32 4294967295 (x : Int) = ((4294967295 - x : Nat) : Int) := by
  have h1 := u32_xor_nat 4294967295 x (by decide) h
  have h2 : 4294967295 ^^^ x = 4294967295 - x := by
    have h3 : (BitVec.allOnes 32 ^^^ BitVec.ofNat 32 x).toNat = (~~~ BitVec.ofNat 32 x).toNat := by rw [BitVec.allOnes_xor]
    rw [BitVec.toNat_xor, BitVec.toNat_not, BitVec.toNat_allOnes, BitVec.toNat_ofNat, Nat.mod_eq_of_lt h] at h3
    exact h3
  rw [h2] at h1
  exact h1

set_option maxHeartbeats 1000000 in
theorem crc_any (ss : List ByteArray) (A : Option Addr) (c B : Nat) (w : World) (hr : Reads w B 1 A ss.length (strs ss)) (hl : ss.length ≤ 9223372036854775807) (hs : ∀ s ∈ ss, s.size ≤ 9223372036854775807) :
    Calls Tryz.prog 205 #[.slice A ss.length c] w fun e w' => e = .returned (.int .i64 (Sum.crc (cat ss))) ∧ w = w' := by
  generalize hn : ss.length = n at *
  have Hn := Lib.hid hn; clear hn
  have Hs := Lib.hid hs; clear hs
  go_enter Tryz.func205, Tryz.ntmps205
  go_wp2
  go_loop [3, 10] (fun x i => ∃ (k X : Nat), k ≤ n ∧ i = .int .i64 k ∧ x = .int .u32 X ∧ X < 4294967296 ∧ Hid (X = Sum.crcFrom 4294967295 (cat (ss.take k)))) (fun _ i => n - (intOf i).toNat)
  case atStart => exact ⟨0, 4294967295, Nat.zero_le _, rfl, rfl, by omega, rfl⟩
  case round =>
    obtain ⟨k, X, hk, rfl, rfl, hX, HX⟩ := hrel
    by_cases hlt : k < n
    · obtain ⟨ad, s, rfl, _, hsk, hc⟩ := str_at hr hlt
      have hss : s.size ≤ 9223372036854775807 := Hs.out s (List.mem_of_getElem? hsk)
      have Hsk := Lib.hid hsk; clear hsk
      go_wp2
      go_loop [3, 16] (fun x i => ∃ (j Y : Nat), j ≤ s.size ∧ i = .int .i64 j ∧ x = .int .u32 Y ∧ Y < 4294967296 ∧ Hid (Y = Sum.crcFrom X (s.data.toList.take j))) (fun _ i => s.size - (intOf i).toNat)
      case atStart => exact ⟨0, X, Nat.zero_le _, rfl, rfl, hX, rfl⟩
      case round =>
        obtain ⟨j, Y, hj, rfl, rfl, hY, HY⟩ := hrel
        by_cases hjt : j < s.size
        · have hb := s[j].toNat_lt
          obtain ⟨Z, hZ, hZ2, HZ⟩ : ∃ Z : Nat, bits .xor .u32 (Y : Int) (s[j].toNat : Int) = (Z : Int) ∧ Z < 4294967296 ∧ Hid (Z = Y ^^^ s[j].toNat) :=
            ⟨_, u32_xor_nat Y s[j].toNat hY (by omega), Sum.xor_lt hY (by omega), rfl⟩
          go_wp2
          go_loop [3, 25] (fun x i => ∃ (m V : Nat), m ≤ 8 ∧ i = .int .i64 m ∧ x = .int .u32 V ∧ V < 4294967296 ∧ Hid (V = Sum.bitN m Z)) (fun _ i => 8 - (intOf i).toNat)
          case atStart => exact ⟨0, Z, Nat.zero_le _, rfl, rfl, hZ2, rfl⟩
          case round =>
            obtain ⟨m, V, hm, rfl, rfl, hV, HV⟩ := hrel
            clear hZ
            by_cases hmt : m < 8
            · have hV2 := Sum.bit_lt hV
              have hand := u32_and_nat V 1 hV (by decide)
              rw [nat_mask1] at hand
              by_cases ho : V % 2 = 1
              · rw [ho] at hand
                obtain ⟨T, hT, hT2, HT⟩ : ∃ T : Nat, bits .xor .u32 ((V : Int) / 2) 3988292384 = (T : Int) ∧ T < 4294967296 ∧ Hid (T = Sum.bit V) :=
                  ⟨_, u32_xor_nat (V / 2) 3988292384 (by omega) (by decide), Sum.xor_lt (by omega) (by decide), by simp [Hid, Sum.bit, ho]⟩
                have Ho := Lib.hid ho; clear ho
                have hand1 : bits .and .u32 (V : Int) 1 = 1 := hand
                clear hand
                go_wp2
                go_round
                case rel => exact ⟨m + 1, T, by omega, by go_num, rfl, hT2, by show _ = _; rw [HT.out, HV.out]; rfl⟩
                case measure => simp [intOf]; omega
              · have ho' : V % 2 = 0 := by omega
                rw [ho'] at hand
                have hand1 : bits .and .u32 (V : Int) 1 = 0 := hand
                have hbit : Sum.bit V = V / 2 := by simp [Sum.bit, ho']
                have Hbit := Lib.hid hbit; clear hbit ho ho' hand
                go_wp2
                go_round
                case rel => exact ⟨m + 1, V / 2, by omega, by go_num, rfl, by omega, by show _ = _; rw [← Hbit.out, HV.out]; rfl⟩
                case measure => simp [intOf]; omega
            · go_wp2
              go_round
              case rel =>
                refine ⟨j + 1, V, by omega, by go_num, rfl, hV, ?_⟩
                show _ = _
                rw [take_snoc (byte_at s hjt), Sum.crcFrom_append, ← HY.out, HV.out, show m = 8 from by omega, HZ.out]
                rfl
              case measure => simp [intOf]; omega
        · go_wp2
          go_round
          case rel =>
            refine ⟨k + 1, Y, by omega, by go_num, rfl, hY, ?_⟩
            show _ = _
            have h1 := HY.out
            rw [List.take_of_length_le (by rw [len_data]; omega)] at h1
            rw [take_snoc Hsk.out, cat_snoc, Sum.crcFrom_append, ← HX.out]
            exact h1
          case measure => simp [intOf]; omega
    · obtain ⟨R, hR, hR2, HR⟩ : ∃ R : Nat, bits .xor .u32 IntKind.u32.max (X : Int) = (R : Int) ∧ R < 4294967296 ∧ Hid (R = 4294967295 - X) :=
        ⟨_, not_u32 X hX, by omega, rfl⟩
      go_wp2
      go_ret
      refine ⟨ret_int ?_, rfl⟩
      have h1 := HX.out
      rw [List.take_of_length_le (by have := Hn.out; omega)] at h1
      rw [IntWalk.wrap64_in (R : Int) ⟨by omega, by omega⟩, HR.out, h1]
      rfl
end Go.Proofs.YtfmbadinfhpihaaGreat.Sm
namespace Go.Proofs.YtfmbadinfhpihaaGreat.Sm
open Go.RowKit

theorem ownsRow_below {w w' : World} {base : Nat} {e : TypeId} {size : Nat} {v : Value} {n : Nat} {xs : List Value} (h : w.ownsRow base e size v n xs) {B : Nat} (hb : Below B w w') (hB : w.heap.size ≤ B) : w'.ownsRow base e size v n xs := by
  obtain ⟨h1, h2⟩ := h
  refine ⟨h1, ?_⟩
  rcases h2 with h2 | ⟨g, cap, cur, hv, hg, hh, r⟩
  · exact .inl h2
  · have hlt : g < w.heap.size := by
      rcases Nat.lt_or_ge g w.heap.size with hlt | hge
      · exact hlt
      · rw [Array.getElem?_eq_none hge] at hh; cases hh
    exact .inr ⟨g, cap, cur, hv, hg, by rw [hb.block g (by omega)]; exact hh, r⟩
theorem builderAt_below {w w' : World} {T e : TypeId} {B b : Nat} {p : Value} {bs : List Value} (h : Lib.BuilderAt T e B b p bs w) {C : Nat} (hb : Below C w w') (hC : w.heap.size ≤ C) : Lib.BuilderAt T e B b p bs w' := by
  have hlt := h.lt
  obtain ⟨h1, v, h2, h3, h4⟩ := h
  exact ⟨h1, v, by rw [hb.block b (by omega)]; exact h2, ownsRow_below h3 hb hC, h4⟩
theorem isBuilder_below {w w' : World} {T e : TypeId} {B b : Nat} {bs : List Value} (h : Lib.IsBuilder T e B b bs w) {C : Nat} (hb : Below C w w') (hC : w.heap.size ≤ C) : Lib.IsBuilder T e B b bs w' := by
  rcases h with h | h
  · exact .inl (builderAt_below h hb hC)
  · exact .inr (builderAt_below h hb hC)
theorem below_drewN {B : Nat} {a w : World} (h : Below B a w) (n : Nat) : Below B a (w.drewN n) := ⟨h.os, h.tape, h.output, h.size, h.block⟩
theorem data_append (a b : ByteArray) : (a ++ b).data.toList = a.data.toList ++ b.data.toList := by simp
theorem data_mk (l : List UInt8) : (⟨l.toArray⟩ : ByteArray).data.toList = l := by simp
/-- One text in a new block of its own. -/
theorem reads_one (w : World) (s : ByteArray) (t : TypeId) : Reads (w.alloc (.cells #[.string s] t)) (w.heap.size + 1) 1 (some ⟨w.heap.size, 0, none⟩) 1 (strs [s]) :=
  ⟨rfl, fun _ => ⟨_, rfl, by simp, fun j u hu => by
    match j, hu with
    | 0, hu => simp [strs] at hu; subst hu; simp [go_sem]
    | j + 1, hu => simp [strs] at hu⟩⟩

def datas (ss : List ByteArray) : List (List UInt8) := ss.map (·.data.toList)
theorem datas_total (ss : List ByteArray) : Sum.total (datas ss) = total ss := by
  induction ss with
  | nil => rfl
  | cons s ss ih => 
    have h1 : Sum.total (datas (s :: ss)) = s.data.toList.length + Sum.total (datas ss) := by simp [Sum.total, datas]
    rw [h1, total_cons, ih, len_data]
theorem datas_take_snoc {ss : List ByteArray} {k : Nat} {s : ByteArray} (h : ss[k]? = some s) : datas (ss.take (k + 1)) = datas (ss.take k) ++ [s.data.toList] := by
  rw [take_snoc h]; simp [datas]

set_option maxHeartbeats 1000000 in
theorem frame_any (ss : List ByteArray) (A : Option Addr) (c : Nat) (w : World) (hr : Reads w w.heap.size 1 A ss.length (strs ss)) (hN : total ss + 8 * ss.length ≤ 1000000000) :
    Calls Tryz.prog 146 #[.slice A ss.length c] w fun e w' => e = .returned (.string ⟨(Sum.frames (datas ss)).toArray⟩) ∧ Below w.heap.size w w' := by
  generalize hn : ss.length = n at *
  have Hn := Lib.hid hn; clear hn
  have hfresh := Lib.fresh_isBuilder 263 5 w
  have hw0 : Below w.heap.size w (w.alloc (.cells #[.pointer none, .slice none 0 0] 263)) := (Below.refl _ _).alloc (Nat.le_refl _) _
  go_enter Tryz.func146, Tryz.ntmps146
  go_wp2
  go_loopw [8] (fun i wr => ∃ k : Nat, k ≤ n ∧ i = .int .i64 k ∧ Hid (Lib.IsBuilder 263 5 w.heap.size w.heap.size (Lib.byteCells (Sum.frames (datas (ss.take k)))) wr) ∧ Below w.heap.size w wr ∧ w.heap.size < wr.heap.size) (fun i _ => n - (intOf i).toNat)
  case atStart => exact ⟨0, Nat.zero_le _, rfl, hfresh, hw0, by simp⟩
  case round =>
    obtain ⟨k, hk, rfl, HI, hb, hlt1⟩ := hrel
    by_cases hlt : k < n
    · obtain ⟨ad, s, rfl, hbl, hsk, hc0⟩ := str_at hr hlt
      have hc : wr.cell? (ad.add k) = some (.string s) := by rw [hb.cell (by rw [block_of_add]; exact hbl)]; exact hc0
      have hst : s.size ≤ total ss := size_le_total (List.mem_of_getElem? hsk)
      have Hsk := Lib.hid hsk; clear hsk hc0
      go_wp2_with fail
      refine (four_any s.size (by omega) _).mono ?_
      rintro e w1 ⟨rfl, hb1⟩
      have hz1 := hb1.size
      go_wp2_with fail
      refine (crc_any [s] _ _ _ _ (reads_one w1 s 9) (by simp) (by simp; omega)).mono ?_
      rintro e w2 ⟨rfl, rfl⟩
      have hcs : cat [s] = s.data.toList := by simp [cat]
      rw [hcs]
      clear hcs
      go_wp2_with fail
      refine (four_any (Sum.crc s.data.toList) (Sum.crc_lt _) _).mono ?_
      rintro e w3 ⟨rfl, hb3⟩
      have hz3 : w1.heap.size + 1 ≤ w3.heap.size := by simpa using hb3.size
      have hb03 : Below wr.heap.size wr w3 := (hb1.alloc hz1 _).trans (hb3.mono (by simp; omega))
      have hI3 := isBuilder_below HI.out hb03 (Nat.le_refl _)
      have hbw3 : Below w.heap.size w w3 := hb.trans (hb03.mono (by omega))
      have f1 : (⟨(Sum.four s.size).toArray⟩ : ByteArray).size = 4 := rfl
      have f2 : (⟨(Sum.four (Sum.crc s.data.toList)).toArray⟩ : ByteArray).size = 4 := rfl
      have hlen : (Lib.byteCells (Sum.frames (datas (ss.take k)))).length ≤ total ss + 8 * n := by
        rw [Lib.byteCells_length, Sum.frames_length, datas_total]
        have := total_take_le ss k
        have h2 : (datas (ss.take k)).length ≤ n := by simp [datas]; have := Hn.out; omega
        omega
      have hsz2 : ((⟨(Sum.four s.size).toArray⟩ : ByteArray) ++ ⟨(Sum.four (Sum.crc s.data.toList)).toArray⟩ ++ s).size = 8 + s.size := by
        rw [ByteArray.size_append', ByteArray.size_append', f1, f2]
      clear hc hr
      go_wp2_with fail
      refine (Bld.write_any w.heap.size w.heap.size _ _ _ hI3 (by rw [hsz2]; omega) (by omega)).mono ?_
      rintro e w4 ⟨rfl, hI4, hb4⟩
      have hI5 : Lib.IsBuilder 263 5 w.heap.size w.heap.size (Lib.byteCells (Sum.frames (datas (ss.take (k + 1))))) w4 := by
        have e1 : Lib.byteCells (Sum.frames (datas (ss.take (k + 1)))) = Lib.byteCells (Sum.frames (datas (ss.take k))) ++ Lib.strCells (((⟨(Sum.four s.size).toArray⟩ : ByteArray) ++ ⟨(Sum.four (Sum.crc s.data.toList)).toArray⟩ ++ s)) := by
          rw [datas_take_snoc Hsk.out, Sum.frames_append, Lib.byteCells_append, Lib.strCells_eq, data_append, data_append, data_mk, data_mk]
          simp [Sum.frames, Sum.frame]
        rw [e1]
        exact hI4
      have HI5 := Lib.hid hI5
      have hz4 := hb4.size
      clear hI4 hI5 hI3 hsz2 hlen f1 f2
      go_wp2
      go_roundw
      case rel => exact ⟨k + 1, by omega, by go_num, HI5, hbw3.trans hb4, by omega⟩
      case measure => simp [intOf]; omega
    · have hI := HI.out
      rw [List.take_of_length_le (by have := Hn.out; omega)] at hI
      go_wp2_with fail
      refine (Bld.string_any w.heap.size w.heap.size _ _ hI (by omega)).mono ?_
      rintro e w1 ⟨rfl, hb1⟩
      go_wp2
      go_ret
      exact ⟨rfl, hb.trans hb1⟩
end Go.Proofs.YtfmbadinfhpihaaGreat.Sm
namespace Go.Proofs.YtfmbadinfhpihaaGreat.Sm
open Go.RowKit

def texts (ls : List (List UInt8)) : List ByteArray := ls.map fun l => ⟨l.toArray⟩
theorem extract_size (s : ByteArray) (a b : Nat) (h : b ≤ s.size) : (s.extract a b).size = b - a := by
  simp; omega
theorem extract_data' (s : ByteArray) (a b : Nat) : (s.extract a b).data.toList = (s.data.toList.drop a).take (b - a) := by
  simp
theorem extract_tail (s : ByteArray) (a : Nat) : (s.extract a s.size).data.toList = s.data.toList.drop a := by
  rw [extract_data', List.take_of_length_le (by rw [List.length_drop, len_data]; omega)]
attribute [local go_sem ↓] Go.wp_at_zero Go.wp_at_succ
theorem info_string : (Tryz.prog.info? 9).map (fun i => (i.zero, i.size, i.bytes)) = some (some (.string ⟨#[]⟩), 1, 16) := by kernel_rfl

/-- The sum of one text, in a block of its own. -/
theorem crc_one (s : ByteArray) (A : Option Addr) (c B : Nat) (w : World) (hr : Reads w B 1 A 1 (strs [s])) (hs : s.size ≤ 9223372036854775807) :
    Calls Tryz.prog 205 #[.slice A 1 c] w fun e w' => e = .returned (.int .i64 (Sum.crc s.data.toList)) ∧ w = w' :=
  (crc_any [s] A c B w hr (by simp) (by simpa using hs)).mono fun e w' ⟨he, hw⟩ => ⟨by rw [he]; simp [cat], hw⟩
theorem num_data (s : ByteArray) (h4 : 4 ≤ s.size) (l : List UInt8) (hl : s.data.toList = l) (w : World) :
    Calls Tryz.prog 204 #[.string s] w fun e w' => e = .returned (.int .i64 (Sum.num l)) ∧ ∃ q, w' = w.drewN q := by
  subst hl
  exact num_any s h4 w

set_option maxHeartbeats 2000000 in
set_option maxRecDepth 100000 in
theorem scan_any (s : ByteArray) (w : World) (hN : s.size ≤ 1000000000) :
    Calls Tryz.prog 145 #[.string s] w fun e w' => ∃ A c, e = .returned (.tuple #[.slice A (Sum.scan s.data.toList).1.length c, .int .i64 (Sum.scan s.data.toList).2]) ∧
      w'.ownsRow w.heap.size 9 1 (.slice A (Sum.scan s.data.toList).1.length c) (Sum.scan s.data.toList).1.length (strs (texts (Sum.scan s.data.toList).1)) ∧ Below w.heap.size w w' := by
  obtain ⟨i0, hi, hz0, hz1, hz2⟩ := info_parts info_string
  go_enter Tryz.func145, Tryz.ntmps145
  go_wp2
  go_loopw [4, 5] (fun o i wr => ∃ (l : List (List UInt8)) (k : Nat), k ≤ s.size ∧ 8 * l.length ≤ k ∧ i = .int .i64 k ∧ Hid (Sum.scan s.data.toList = (l ++ (Sum.scan (s.data.toList.drop k)).1, k + (Sum.scan (s.data.toList.drop k)).2)) ∧
    (∃ A c, o = .slice A l.length c) ∧ wr.ownsRow w.heap.size 9 1 o l.length (strs (texts l)) ∧ Below w.heap.size w wr) (fun _ i _ => s.size - (intOf i).toNat)
  case atStart => exact ⟨[], 0, Nat.zero_le _, by simp, rfl, by simp [Hid], ⟨none, 0, rfl⟩, ⟨rfl, .inl ⟨rfl, rfl⟩⟩, Below.refl _ _⟩
  case round =>
    obtain ⟨l, k, hk, hlk, rfl, HS, ⟨A, c, rfl⟩, hown, hb⟩ := hrel
    have hsz := hb.size
    by_cases h8 : k + 8 ≤ s.size
    · have hn1 : (s.extract k s.size).size = s.size - k := extract_size s k s.size (Nat.le_refl _)
      go_wp2_with fail
      refine (num_any (s.extract k s.size) (by rw [hn1]; omega) _).mono ?_
      rintro e w1 ⟨rfl, q1, rfl⟩
      rw [extract_tail]
      generalize hnum : Sum.num (s.data.toList.drop k) = n
      have Hnum := Lib.hid hnum
      have hnlt : n < 4294967296 := by rw [← hnum]; exact Sum.num_lt _
      clear hnum hn1
      have hb1 : Below w.heap.size w (wr.drewN q1) := below_drewN hb q1
      have hown1 : (wr.drewN q1).ownsRow w.heap.size 9 1 (.slice A l.length c) l.length (strs (texts l)) := hown
      clear hb hown
      generalize wr.drewN q1 = w1 at *
      have hsz1 := hb1.size
      have hnone : ∀ _h : ¬ (8 ≤ (s.data.toList.drop k).length ∧ n ≤ 60000 ∧ n ≤ (s.data.toList.drop k).length - 8 ∧ Sum.crc (((s.data.toList.drop k).drop 8).take n) = Sum.num ((s.data.toList.drop k).drop 4)), Sum.scan s.data.toList = (l, k) := by
        intro h
        have h1 : Sum.scan (s.data.toList.drop k) = ([], 0) := by
          apply Sum.scan_none
          unfold Sum.head
          rw [Hnum.out, if_neg h]
        have h2 := HS.out
        rw [h1] at h2
        simpa using h2
      have Hnone := Lib.hid hnone; clear hnone
      have hdl : (s.data.toList.drop k).length = s.size - k := by rw [List.length_drop, len_data]
      have Hdl := Lib.hid hdl; clear hdl
      by_cases hA : 60000 < n
      · have hA' : decide ((60000 : Int) < n) = true := by simp; omega
        go_wp2
        go_quiet (fail)
        go_wp2
        go_ret2
        have hfin := Hnone.out (by omega)
        rw [hfin]
        exact ⟨A, c, rfl, hown1, below_drewN hb1 _⟩
      · have hA' : decide ((60000 : Int) < n) = false := by simp; omega
        by_cases hB : s.size - (k + 8) < n
        · have hB' : decide ((s.size : Int) - (k + 8) < n) = true := by simp; omega
          go_wp2
          go_quiet (fail)
          go_wp2
          go_ret2
          have hfin := Hnone.out (by rw [Hdl.out]; omega)
          rw [hfin]
          exact ⟨A, c, rfl, hown1, below_drewN hb1 _⟩
        · have hB' : decide ((s.size : Int) - (k + 8) < n) = false := by simp; omega
          have b1 : (0 : Int) ≤ (k : Int) + 8 := by omega
          have b2 : (k : Int) + 8 ≤ (k : Int) + 8 + (n : Int) := by omega
          have b3 : (k : Int) + 8 + (n : Int) ≤ (s.size : Int) := by omega
          have b4 : (k : Int) + 4 ≤ (s.size : Int) := by omega
          have b5 : (0 : Int) ≤ (k : Int) + 4 := by omega
          have x1 : IntKind.i64.wrap ((k : Int) + 8 + n) = (k : Int) + 8 + n := IntWalk.i64_in _ (by omega)
          have x2 : IntKind.i64.wrap ((k : Int) + 4) = (k : Int) + 4 := IntWalk.i64_in _ (by omega)
          have x3 : IntKind.i64.wrap ((s.size : Int) - ((k : Int) + 8)) = (s.size : Int) - ((k : Int) + 8) := IntWalk.i64_in _ (by omega)
          have n1 : ((k : Int) + 8).toNat = k + 8 := by omega
          have n2 : ((k : Int) + 8 + (n : Int)).toNat = k + 8 + n := by omega
          have n3 : ((k : Int) + 4).toNat = k + 4 := by omega
          obtain ⟨t, Ht⟩ : ∃ t, Hid (t = s.extract (k + 8) (k + 8 + n)) := ⟨_, rfl⟩
          have hts : t.size = n := by rw [Ht.out, extract_size _ _ _ (by omega)]; omega
          have htd : ((s.data.toList.drop k).drop 8).take n = t.data.toList := by
            rw [Ht.out, extract_data', List.drop_drop, show k + 8 + n - (k + 8) = n from by omega]
          have Htd := Lib.hid htd; clear htd
          have Hts := Lib.hid hts; clear hts
          obtain ⟨u, Hu⟩ : ∃ u, Hid (u = Sum.num ((s.data.toList.drop k).drop 4)) := ⟨_, rfl⟩
          obtain ⟨v, Hv⟩ : ∃ v, Hid (v = Sum.crc t.data.toList) := ⟨_, rfl⟩
          by_cases hC : v = u
          · have HC := Lib.hid hC; clear hC
            have hC' : ((v : Int) != (u : Int)) = false := by rw [HC.out]; simp
            go_wp2
            go_region_held3 (fun _ => True) (trivial) (first
              | (go_at_call 205; refine (crc_one (s.extract (k + 8) (k + 8 + n)) _ _ _ _ ((reads_one w1 _ _).drew) (by rw [← Ht.out, Hts.out]; omega)).mono ?_; rw [← Ht.out, ← Hv.out]; rintro e w' ⟨rfl, rfl⟩)
              | (go_at_call 204; refine (num_data (s.extract (k + 4) s.size) (by rw [extract_size _ _ _ (Nat.le_refl _)]; omega) ((s.data.toList.drop k).drop 4) (by rw [extract_tail, List.drop_drop]) _).mono ?_; rw [← Hu.out]; rintro e w' ⟨rfl, q2, rfl⟩))
            go_wp2_with fail
            rw [← Ht.out]
            refine (clone_any t _ (by rw [Hts.out]; omega)).mono ?_
            rintro e w2 ⟨rfl, hb2⟩
            have hsz2 : w1.heap.size + 1 ≤ w2.heap.size := by simpa using hb2.size
            have hbw2 : Below w.heap.size w w2 := (below_drewN (hb1.alloc hsz1 _) _).trans (hb2.mono (by simp; omega))
            have hown2 : w2.ownsRow w.heap.size 9 1 (.slice A l.length c) l.length (strs (texts l)) := ownsRow_below (w := (w1.alloc (.cells #[.string t] 9)).drewN (1 + q2)) (hown1.alloc _) hb2 (Nat.le_refl _)
            have hll : l.length ≤ 1000000000 := by omega
            have hwz : w.heap.size ≤ w2.heap.size := by omega
            clear hb2 hb1 hown1 hsz1
            go_wp2_with (at_builtin; refine wpList_append_own _ rfl _ _ 22 rfl w.heap.size 9 i0 (.string ⟨#[]⟩) 1 16 Tryz.underlying22 hi hz0 hz1 hz2 rfl (by decide) _ _ _ rfl (hown2.alloc _) ⟨w2.heap.size, 0, none⟩ 1 1 [.string t] rfl rfl ?c1 ?c2 ?c3 ?c4 ?c5 ?_)
            case c1 => exact cell_one_new _ _ _
            case c2 => simp [Value.oneCell']
            case c3 => unfold maxLen; omega
            case c4 => omega
            case c5 => simp; omega
            intro v3 w3 hown3 hgrow3 _
            obtain ⟨A3, c3, rfl⟩ : ∃ A3 c3, v3 = .slice A3 (l.length + 1) c3 := by
              rcases hown3.2 with ⟨_, h0⟩ | ⟨g, cap, cur, hv, _⟩
              · omega
              · exact ⟨_, _, hv⟩
            go_wp2
            go_roundw
            case rel =>
              refine ⟨l ++ [t.data.toList], k + 8 + n, by omega, by simp; omega, by go_num, ?_, ⟨A3, c3, by simp⟩, ?_, ?_⟩
              · show _ = _
                have hh : Sum.head (s.data.toList.drop k) = some t.data.toList := by
                  unfold Sum.head
                  rw [Hnum.out, Htd.out, Hdl.out, if_pos ⟨by omega, by omega, by omega, by rw [← Hv.out, ← Hu.out]; exact HC.out⟩]
                have h1 := HS.out
                rw [Sum.scan_some hh, List.drop_drop, len_data, Hts.out] at h1
                rw [h1, show k + (8 + n) = k + 8 + n from by omega]
                simp [Nat.add_assoc]
              · have e1 : strs (texts (l ++ [t.data.toList])) = strs (texts l) ++ [.string t] := by simp [strs, texts]
                rw [e1]
                simpa using hown3
              · exact (hbw2.alloc (by omega) _).grown hgrow3 (by simp; omega) (fun g hg => (hown2.lt g hg).1)
            case measure => simp [intOf]; omega
          · have HC := Lib.hid hC
            have hC' : ((v : Int) != (u : Int)) = true := by simp; omega
            clear hC
            go_wp2
            go_region_held3 (fun _ => True) (trivial) (first
              | (go_at_call 205; refine (crc_one (s.extract (k + 8) (k + 8 + n)) _ _ _ _ ((reads_one w1 _ _).drew) (by rw [← Ht.out, Hts.out]; omega)).mono ?_; rw [← Ht.out, ← Hv.out]; rintro e w' ⟨rfl, rfl⟩)
              | (go_at_call 204; refine (num_data (s.extract (k + 4) s.size) (by rw [extract_size _ _ _ (Nat.le_refl _)]; omega) ((s.data.toList.drop k).drop 4) (by rw [extract_tail, List.drop_drop]) _).mono ?_; rw [← Hu.out]; rintro e w' ⟨rfl, q2, rfl⟩))
            go_wp2
            go_ret2
            have hfin := Hnone.out (by rw [Hdl.out, Htd.out, ← Hu.out, ← Hv.out]; rintro ⟨_, _, _, h⟩; exact HC.out h)
            rw [hfin]
            exact ⟨A, c, rfl, (hown1.alloc _), below_drewN (hb1.alloc hsz1 _) _⟩
    · go_wp2
      go_ret2
      have hlt : (s.data.toList.drop k).length < 8 := by rw [List.length_drop, len_data]; omega
      have h2 := HS.out
      rw [Sum.scan_short hlt] at h2
      simp only [List.append_nil, Nat.add_zero] at h2
      rw [h2]
      exact ⟨A, c, rfl, hown, hb⟩
end Go.Proofs.YtfmbadinfhpihaaGreat.Sm
