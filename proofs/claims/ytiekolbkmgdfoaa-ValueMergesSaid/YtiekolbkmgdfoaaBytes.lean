/-
  Bytes and bits, for all texts of this seat: a []byte as a string, bits of an int that is not below 0.
  Conditions: each lemma's own premises.
-/
import Derived.Laws.BytesString
import Derived.Laws.BitsAllLaws
import Derived.Laws.BitsLemmas
import Derived.Laws.Cells
import Derived.Lib.UnsafeStr
import Derived.Test.YtiekolbkmgdfoaaWords
namespace Go.Proofs.Ytiekolbkmgdfoaa
open Go.RowKit

theorem fold_push (l : List UInt8) : ∀ s : ByteArray, (l.map fun b => ((b.toNat : Nat) : Int)).foldl (fun r n => r.push (UInt8.ofNat n.toNat)) s = ⟨(s.data.toList ++ l).toArray⟩ := by
  induction l with
  | nil => intro s; simp
  | cons b l ih =>
    intro s
    simp only [List.map_cons, List.foldl_cons]
    rw [ih]
    simp [ByteArray.push]
theorem run_bytes_string {P : Program} (w : World) {src dst e : TypeId} (hs : P.underlying src = some (.slice e)) (he : P.underlying e = some (.int .u8)) (hd : P.underlying dst = some .string)
    {B c n : Nat} {A : Option Addr} {l : List UInt8} (hn : l.length = n) (h : Reads w B 1 A n (Lib.byteCells l)) :
    (convert src dst (.slice A n c)).run P w = .ok (.string ⟨l.toArray⟩) w := by
  rw [run_convert_bytes_string w src dst e A n c hs he hd]
  rcases A with _ | ad
  · have h0 : n = 0 := by
      rcases Nat.eq_zero_or_pos n with h0 | h0
      · exact h0
      · obtain ⟨ad, h, _⟩ := h.2 h0
        cases h
    subst h0
    have : l = [] := List.eq_nil_of_length_eq_zero hn
    subst this
    rfl
  · have hc : ∀ j v, (Lib.byteCells l)[j]? = some v → w.cell? (ad.add j) = some v := by
      intro j v hv
      have hj : j < n := by
        have := (List.getElem?_eq_some_iff.1 hv).1
        rw [Lib.byteCells_length] at this
        omega
      obtain ⟨ad', he', _, hcell⟩ := h.2 (by omega)
      injection he' with he'
      subst he'
      exact hcell j v hv
    have hl := run_loadCells_list (P := P) (w := w) ad (Lib.byteCells l) hc
    rw [Lib.byteCells_length, hn] at hl
    have hm : Lib.byteCells l = (l.map fun b => ((b.toNat : Nat) : Int)).map (Value.int .u8) := by simp [Lib.byteCells]
    rw [hm] at hl
    rw [run_bytesToString w ad n c _ hl, fold_push]
    rfl

theorem len_data (s : ByteArray) : s.data.toList.length = s.size := by simp
theorem byte_at (s : ByteArray) {k : Nat} (h : k < s.size) : s.data.toList[k]? = some s[k] := by
  rw [List.getElem?_eq_getElem (by rw [len_data]; exact h)]; rfl
theorem of_data {s t : ByteArray} (h : s.data.toList = t.data.toList) : s = t := ByteArray.ext (Array.ext' h)

/-! bits of an int (64 bits with a sign), both sides not below 0 -/
theorem ofInt_i64' (a : Nat) (ha : a < 9223372036854775808) : (BitVec.ofInt 64 (a : Int)).toNat = a := by
  rw [BitVec.ofInt_natCast, BitVec.toNat_ofNat]; exact Nat.mod_eq_of_lt (by omega)
theorem i64_and_nat (a b : Nat) (ha : a < 9223372036854775808) (hb : b < 9223372036854775808) : bits .and .i64 (a : Int) (b : Int) = ((a &&& b : Nat) : Int) := by
  have hx : a &&& b < 2 ^ 63 := Nat.and_lt_two_pow _ (by omega)
  show IntKind.i64.wrap ((BitVec.ofInt 64 (a : Int) &&& BitVec.ofInt 64 (b : Int)).toNat : Int) = _
  rw [BitVec.toNat_and, ofInt_i64' a ha, ofInt_i64' b hb, IntKind.wrap_i64]
  omega
theorem i64_or_nat (a b : Nat) (ha : a < 9223372036854775808) (hb : b < 9223372036854775808) : bits .or .i64 (a : Int) (b : Int) = ((a ||| b : Nat) : Int) := by
  have hx : a ||| b < 2 ^ 63 := Nat.or_lt_two_pow (by omega) (by omega)
  show IntKind.i64.wrap ((BitVec.ofInt 64 (a : Int) ||| BitVec.ofInt 64 (b : Int)).toNat : Int) = _
  rw [BitVec.toNat_or, ofInt_i64' a ha, ofInt_i64' b hb, IntKind.wrap_i64]
  omega
/-- Two parts that do not meet: '|' is '+'. -/
theorem i64_join (i : Nat) (a b : Nat) (ha : a < 9223372036854775808) (hi : a % 2 ^ i = 0) (hb : b < 2 ^ i) (hb' : b < 9223372036854775808) : bits .or .i64 (a : Int) (b : Int) = ((a + b : Nat) : Int) := by
  rw [i64_or_nat a b ha hb', nat_join i a b hi hb]
end Go.Proofs.Ytiekolbkmgdfoaa
