/-
  The order of texts and the document's, in plain words: what comes first, byte by byte.
  Conditions: as each lemma says.
-/
import Derived.Test.YtkcecijepbceiaaRefName
namespace Go.Proofs.Ytkcecijepbceiaa
open Go.RowKit Go.Maps Go.Sort

def lessS (a b : ByteArray) : Bool := Op.bytesLess a.toList b.toList
def cmpS (a b : ByteArray) : Int := if lessS a b = true then -1 else if lessS b a = true then 1 else 0
theorem lessS_iff (a b : ByteArray) : lessS a b = true ↔ a.toList < b.toList := by unfold lessS; rw [bytesLess_eq]; simp
theorem cmp_cases (a b : ByteArray) : (cmpS a b = -1 ∧ a.toList < b.toList) ∨ (cmpS a b = 1 ∧ b.toList < a.toList) ∨ (cmpS a b = 0 ∧ ¬ a.toList < b.toList ∧ ¬ b.toList < a.toList) := by
  unfold cmpS
  by_cases h1 : lessS a b = true
  · rw [if_pos h1]; exact .inl ⟨rfl, (lessS_iff a b).1 h1⟩
  · rw [if_neg h1]
    have h1' : ¬ a.toList < b.toList := fun h => h1 ((lessS_iff a b).2 h)
    by_cases h2 : lessS b a = true
    · rw [if_pos h2]; exact .inr (.inl ⟨rfl, (lessS_iff b a).1 h2⟩)
    · rw [if_neg h2]
      exact .inr (.inr ⟨rfl, h1', fun h => h2 ((lessS_iff b a).2 h)⟩)
theorem toList_inj {a b : ByteArray} (h : a.toList = b.toList) : a = b := bytes_eq_iff.1 (by rw [h]; exact beq_self_eq_true _)
theorem cmp_zero (a b : ByteArray) : cmpS a b = 0 ↔ a = b := by
  constructor
  · intro h
    rcases cmp_cases a b with ⟨h1, _⟩ | ⟨h1, _⟩ | ⟨_, h2, h3⟩
    · omega
    · omega
    · exact toList_inj (List.le_antisymm (List.not_lt.1 h3) (List.not_lt.1 h2))
  · rintro rfl
    rcases cmp_cases a a with ⟨_, h⟩ | ⟨_, h⟩ | ⟨h, _⟩
    · exact absurd h (List.lt_irrefl _)
    · exact absurd h (List.lt_irrefl _)
    · exact h
theorem cmp_swap (a b : ByteArray) : cmpS b a = - cmpS a b := by
  rcases cmp_cases a b with ⟨h1, h2⟩ | ⟨h1, h2⟩ | ⟨h1, h2, h3⟩ <;> rcases cmp_cases b a with ⟨k1, k2⟩ | ⟨k1, k2⟩ | ⟨k1, k2, k3⟩ <;> rw [h1, k1] <;> first | rfl | exact absurd k2 (List.lt_asymm h2) | exact absurd h2 k3 | exact absurd h2 k2 | exact absurd k2 h3 | exact absurd k2 h2
theorem cmp_le (a b : ByteArray) : cmpS a b ≤ 0 ↔ a.toList ≤ b.toList := by
  rcases cmp_cases a b with ⟨h1, h2⟩ | ⟨h1, h2⟩ | ⟨h1, h2, h3⟩
  · rw [h1]; exact ⟨fun _ => List.not_lt.1 (List.lt_asymm h2), fun _ => by omega⟩
  · rw [h1]; exact ⟨fun h => by omega, fun h => absurd h2 (List.not_lt.2 h)⟩
  · rw [h1]; exact ⟨fun _ => List.not_lt.1 h3, fun _ => by omega⟩
theorem toList_data (a : ByteArray) : a.toList = a.data.toList := ByteArray.toList_eq a
theorem mk_data (a : ByteArray) : (⟨a.data.toList.toArray⟩ : ByteArray) = a := by cases a; simp
theorem less_iff (a b : ByteArray) : lessS a b = true ↔ a.data.toList < b.data.toList := by rw [lessS_iff, toList_data, toList_data]
theorem cmp_neg (a b : ByteArray) : cmpS a b < 0 ↔ a.data.toList < b.data.toList := by
  rcases cmp_cases a b with ⟨h, h1⟩ | ⟨h, h1⟩ | ⟨h, h1, h2⟩
  · rw [toList_data, toList_data] at h1
    exact ⟨fun _ => h1, fun _ => by omega⟩
  · rw [toList_data, toList_data] at h1
    exact ⟨fun _ => by omega, fun h2 => absurd h1 (List.lt_asymm h2)⟩
  · rw [toList_data, toList_data] at h1
    exact ⟨fun _ => by omega, fun h2 => absurd h2 h1⟩
/-- Byte by byte. -/
theorem cmp_first {a b : ByteArray} {i : Nat} (ha : i < a.size) (hb : i < b.size) (he : a.data.toList.take i = b.data.toList.take i) (hlt : a[i].toNat < b[i].toNat) : cmpS a b = -1 := by
  have h : a.data.toList < b.data.toList := by
    rw [List.lt_iff_exists]
    refine .inr ⟨i, by simpa using ha, by simpa using hb, fun j hj => ?_, ?_⟩
    · have h1 : (a.data.toList.take i)[j]? = (b.data.toList.take i)[j]? := by rw [he]
      rw [List.getElem?_take, List.getElem?_take, if_pos hj, if_pos hj] at h1
      rw [List.getElem?_eq_getElem (by simp; omega), List.getElem?_eq_getElem (by simp; omega)] at h1
      injection h1
    · simp only [Array.getElem_toList]
      exact UInt8.lt_iff_toNat_lt.2 hlt
  have := (cmp_neg a b).2 h
  rcases cmp_cases a b with ⟨h, _⟩ | ⟨h, _⟩ | ⟨h, _⟩ <;> omega
theorem cmp_first' {a b : ByteArray} {i : Nat} (ha : i < a.size) (hb : i < b.size) (he : a.data.toList.take i = b.data.toList.take i) (hlt : b[i].toNat < a[i].toNat) : cmpS a b = 1 := by
  have := cmp_first hb ha he.symm hlt
  have := cmp_swap b a
  omega
theorem cmp_short {a b : ByteArray} (he : a.data.toList.take a.size = b.data.toList.take a.size) (hlt : a.size < b.size) : cmpS a b = -1 := by
  have h : a.data.toList < b.data.toList := by
    rw [List.lt_iff_exists]
    left
    have e : a.data.toList.length = a.size := by simp
    rw [List.take_of_length_le (by omega)] at he
    exact ⟨by rw [e]; exact he, by simpa using hlt⟩
  have := (cmp_neg a b).2 h
  rcases cmp_cases a b with ⟨h, _⟩ | ⟨h, _⟩ | ⟨h, _⟩ <;> omega
theorem cmp_short' {a b : ByteArray} (he : a.data.toList.take b.size = b.data.toList.take b.size) (hlt : b.size < a.size) : cmpS a b = 1 := by
  have := cmp_short he.symm hlt
  have := cmp_swap b a
  omega
theorem cmp_whole {a b : ByteArray} (he : a.data.toList.take a.size = b.data.toList.take a.size) (hs : a.size = b.size) : cmpS a b = 0 := by
  rw [cmp_zero]
  have e : a.data.toList.length = a.size := by simp
  have e' : b.data.toList.length = a.size := by rw [hs]; simp
  rw [List.take_of_length_le (by omega), List.take_of_length_le (by omega)] at he
  exact of_data he
end Go.Proofs.Ytkcecijepbceiaa
