/-
  Package wal: a marker read; the groups at the front of bytes.
  Conditions: bytes of at most 10^9.
-/
import Derived.Test.YtjhinifmdjlblaaGreatWal1
import Derived.Test.YtjhinifmdjlblaaGreatWords2
import Derived.Deep.RegionLaw
namespace Go.Proofs.YtjhinifmdjlblaaGreat
open Go.RowKit
set_option maxRecDepth 100000

def cntV (s : ByteArray) : Int := (Wi.rdNum (s.extract 1 s.size) ⟨0, 0⟩).1
def cntB (s : ByteArray) : Bool := Wi.endOf (s.extract 1 s.size) (Wi.rdNum (s.extract 1 s.size) ⟨0, 0⟩).2 == 0
theorem numTells_le {s : ByteArray} {k : Nat} (hk : k ≤ s.size) (h0 : (Wi.numTells s k).2.2 = 0) : (Wi.numTells s k).2.1 ≤ s.size := by
  cases hd : Wire.dec 0 0 (s.data.toList.drop k) with
  | error x =>
    rw [Wi.numTells_err hd] at h0
    rcases Wire.dec_err _ _ _ _ hd with rfl | rfl <;> simp at h0
  | ok r =>
    obtain ⟨N, m⟩ := r
    obtain ⟨_, h2, _, _⟩ := Wire.enc_dec0 hd
    rw [Wi.numTells_ok hd]
    rw [List.length_drop, len_data] at h2
    show k + m ≤ s.size
    omega
theorem rdNum_le (s : ByteArray) (r : Wi.Rd) (hk : r.k ≤ s.size) : (Wi.rdNum s r).2.k ≤ s.size := by
  unfold Wi.rdNum
  split
  · exact hk
  · split
    · exact hk
    · rename_i h1 h2
      exact numTells_le hk (by simpa using h2)
theorem cnt_is {s : ByteArray} {c : UInt8} {r : List UInt8} (hs : s.data.toList = c :: r) (n : Nat) : Wal.countB r n = (cntB s && decide (cntV s = (n : Int))) := by
  have hd : (s.extract 1 s.size).data.toList = r := by rw [Sm.extract_tail, hs]; rfl
  have hz : (s.extract 1 s.size).size = r.length := by rw [← len_data, hd]
  unfold Wal.countB cntB cntV Wi.rdNum
  rw [if_neg (show ¬ ((0 : Int) ≠ 0) by decide)]
  cases hr : Wire.dec 0 0 r with
  | error x =>
    have hnt : Wi.numTells (s.extract 1 s.size) 0 = (0, 0, (x : Int)) := Wi.numTells_err (by rw [List.drop_zero, hd]; exact hr)
    have hx : (x : Int) ≠ 0 := by rcases Wire.dec_err _ _ _ _ hr with rfl | rfl <;> decide
    simp only [hnt]
    rw [if_pos hx]
    have : Wi.endOf (s.extract 1 s.size) ⟨(x : Int), 0⟩ = x := by unfold Wi.endOf; rw [if_pos hx]
    show false = _
    simp only [this]
    have hb : ((x : Int) == 0) = false := beq_false_of_ne hx
    rw [hb]
    rfl
  | ok p =>
    obtain ⟨N, m⟩ := p
    have hnt : Wi.numTells (s.extract 1 s.size) 0 = (Wire.unzz N, 0 + m, 0) := Wi.numTells_ok (by rw [List.drop_zero, hd]; exact hr)
    obtain ⟨_, h2, _, _⟩ := Wire.enc_dec0 hr
    simp only [hnt]
    rw [if_neg (show ¬ ((0 : Int) ≠ 0) by decide)]
    show (m == r.length && Wire.unzz N == (n : Int)) = (Wi.endOf (s.extract 1 s.size) ⟨0, 0 + m⟩ == 0 && decide (Wire.unzz N = (n : Int)))
    have : (Wi.endOf (s.extract 1 s.size) ⟨0, 0 + m⟩ == 0) = (m == r.length) := by
      unfold Wi.endOf
      rw [if_neg (show ¬ ((0 : Int) ≠ 0) by decide), hz, Nat.zero_add]
      by_cases h : m < r.length
      · show ((if m < r.length then (4 : Int) else 0) == 0) = _
        rw [if_pos h]
        have : (m == r.length) = false := beq_false_of_ne (by omega)
        rw [this]; rfl
      · show ((if m < r.length then (4 : Int) else 0) == 0) = _
        rw [if_neg h]
        have : m = r.length := by omega
        rw [this]; simp
    rw [this]
    congr 1
set_option maxHeartbeats 1000000 in
theorem count_any (s : ByteArray) (h1 : 1 ≤ s.size) (hs : s.size ≤ 1000000000) (w : World) :
    Calls Tryz.prog 87 #[.string s] w fun e w' => e = .returned (.tuple #[.int .i64 (cntV s), .bool (cntB s)]) ∧ Below w.heap.size w w' := by
  have hz : (s.extract 1 s.size).size = s.size - 1 := Sm.extract_size _ _ _ (Nat.le_refl _)
  have hle := rdNum_le (s.extract 1 s.size) ⟨0, 0⟩ (Nat.zero_le _)
  unfold cntV cntB
  obtain ⟨t, ht⟩ : ∃ t, s.extract 1 s.size = t := ⟨_, rfl⟩
  have HT := Lib.hid ht
  rw [ht] at hz hle ⊢
  have hts : t.size ≤ 1000000000 := by omega
  obtain ⟨x, hx⟩ : ∃ x, Wi.rdNum t ⟨0, 0⟩ = x := ⟨_, rfl⟩
  have HX := Lib.hid hx
  rw [hx] at hle ⊢
  obtain ⟨en, hen⟩ : ∃ en, Wi.endOf t x.2 = en := ⟨_, rfl⟩
  have HEN := Lib.hid hen
  rw [hen]
  clear hz ht hx hen
  go_enter Tryz.func87, Tryz.ntmps87
  go_wp2_with fail
  rw [HT.out]
  refine (Wi.newReader_any t _ hts).mono ?_
  rintro e w1 ⟨g, rfl, hg, hrd, hb1⟩
  have HR1 := Lib.hid hrd
  have HB1 := Lib.hid hb1
  have q := Wi.rNum_any g t ⟨0, 0⟩ w1 hrd (Nat.zero_le _) hts
  rw [HX.out] at q
  clear hrd hb1
  go_wp2_with fail
  refine q.mono ?_
  rintro e w2 ⟨rfl, hrd2, hm2⟩
  have HB2 : Hid (Below w.heap.size w w2) := by
    show Below _ _ _
    exact HB1.out.trans ⟨hm2.os, hm2.tape, hm2.output, hm2.size, fun k hk => hm2.block k (Nat.lt_of_lt_of_le hk HB1.out.size) (by simp; omega)⟩
  have q3 := Wi.end_any g t x.2 w2 hrd2 hle hts
  rw [HEN.out] at q3
  clear hrd2 hm2 q
  go_wp2_with fail
  refine q3.mono ?_
  rintro e w3 ⟨rfl, n3, rfl⟩
  go_wp2
  go_ret2
  exact ⟨rfl, drewN_below HB2.out n3⟩
end Go.Proofs.YtjhinifmdjlblaaGreat
