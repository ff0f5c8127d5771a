/-
  Small lemmas for all texts of this seat: results, slices of texts and of ints, how long texts are together.
  Conditions: the lemmas' own premises.
-/
import Derived.WalkKit
import Derived.Lib.Hide
import Derived.Test.YtiekolbkmgdfoaaWords
namespace Go.Proofs.Ytiekolbkmgdfoaa
open Go.RowKit

theorem ret_int {k : IntKind} {a b : Int} (h : a = b) : Ending.returned (.int k a) = .returned (.int k b) := by rw [h]
theorem ret_bool {a b : Bool} (h : a = b) : Ending.returned (.bool a) = .returned (.bool b) := by rw [h]
theorem ret_string {a b : ByteArray} (h : a = b) : Ending.returned (.string a) = .returned (.string b) := by rw [h]

theorem take_snoc {α : Type} {l : List α} {k : Nat} {u : α} (h : l[k]? = some u) : l.take (k + 1) = l.take k ++ [u] := by
  obtain ⟨h', e⟩ := List.getElem?_eq_some_iff.1 h
  rw [List.take_succ_eq_append_getElem h', e]
theorem drop_cons {α : Type} {l : List α} {k : Nat} {u : α} (h : l[k]? = some u) : l.drop k = u :: l.drop (k + 1) := by
  obtain ⟨h', e⟩ := List.getElem?_eq_some_iff.1 h
  rw [← e, List.getElem_cons_drop]

def ints (zs : List Int) : List Value := zs.map (Value.int .i64)
def strs (ss : List ByteArray) : List Value := ss.map Value.string
theorem ints_len (zs : List Int) : (ints zs).length = zs.length := by simp [ints]
theorem strs_len (ss : List ByteArray) : (strs ss).length = ss.length := by simp [strs]

/-- The k-th of a slice of texts, for the walk. -/
theorem str_at {w : World} {B n k : Nat} {A : Option Addr} {ss : List ByteArray} (h : Reads w B 1 A n (strs ss)) (hk : k < n) :
    ∃ ad s, A = some ad ∧ ad.block < B ∧ ss[k]? = some s ∧ w.cell? (ad.add k) = some (.string s) := by
  obtain ⟨ad, u, hA, hb, hx, hc⟩ := h.at_ hk
  simp only [strs, List.getElem?_map, Option.map_eq_some_iff] at hx
  obtain ⟨s, hs, rfl⟩ := hx
  exact ⟨ad, s, hA, hb, hs, hc⟩
theorem int_at {w : World} {B n k : Nat} {A : Option Addr} {zs : List Int} (h : Reads w B 1 A n (ints zs)) (hk : k < n) :
    ∃ ad z, A = some ad ∧ ad.block < B ∧ zs[k]? = some z ∧ w.cell? (ad.add k) = some (.int .i64 z) := by
  obtain ⟨ad, u, hA, hb, hx, hc⟩ := h.at_ hk
  simp only [ints, List.getElem?_map, Option.map_eq_some_iff] at hx
  obtain ⟨s, hs, rfl⟩ := hx
  exact ⟨ad, s, hA, hb, hs, hc⟩

/-! ### texts together -/
def total (ss : List ByteArray) : Nat := (ss.map ByteArray.size).sum
theorem total_nil : total [] = 0 := rfl
theorem total_cons (s : ByteArray) (ss : List ByteArray) : total (s :: ss) = s.size + total ss := by simp [total]
theorem total_append (a b : List ByteArray) : total (a ++ b) = total a + total b := by simp [total]
theorem total_take_succ {ss : List ByteArray} {k : Nat} {s : ByteArray} (h : ss[k]? = some s) : total (ss.take (k + 1)) = total (ss.take k) + s.size := by
  obtain ⟨h', e⟩ := List.getElem?_eq_some_iff.1 h
  rw [List.take_succ_eq_append_getElem h', e, total_append]; simp [total]
theorem total_take_le (ss : List ByteArray) (k : Nat) : total (ss.take k) ≤ total ss := by
  conv => rhs; rw [← List.take_append_drop k ss]
  rw [total_append]; omega
theorem size_le_total {ss : List ByteArray} {s : ByteArray} (h : s ∈ ss) : s.size ≤ total ss := by
  induction ss with
  | nil => cases h
  | cons t ss ih =>
    rw [total_cons]
    rcases List.mem_cons.1 h with rfl | h
    · omega
    · have := ih h; omega
theorem total_take_mono (ss : List ByteArray) {a b : Nat} (h : a ≤ b) : total (ss.take a) ≤ total (ss.take b) := by
  have := total_take_le (ss.take b) a
  rwa [List.take_take, Nat.min_eq_left h] at this
def shortB (few rm : Nat) (ss : List ByteArray) : Bool := decide (ss.length ≤ few ∧ total ss ≤ rm)
theorem shortB_iff {few rm : Nat} {ss : List ByteArray} : shortB few rm ss = true ↔ ss.length ≤ few ∧ total ss ≤ rm := by simp [shortB]
def roomAt (rm : Nat) (t : Nat) : Int := if t ≤ rm then (rm : Int) - t else -1

def sameB (a b : List ByteArray) : Bool := decide (a = b)
theorem sameB_iff {a b : List ByteArray} : sameB a b = true ↔ a = b := by simp [sameB]
theorem sameB_self (a : List ByteArray) : sameB a a = true := by simp [sameB]
theorem bytes_eq_iff {s t : ByteArray} : (s.toList == t.toList) = true ↔ s = t := by
  rw [beq_iff_eq, ByteArray.toList_eq, ByteArray.toList_eq]
  constructor
  · intro h
    exact ByteArray.ext (Array.ext' h)
  · rintro rfl; rfl
end Go.Proofs.Ytiekolbkmgdfoaa
