/-
  NameParts: what a name begins with is a name; with another byte in it, or too long, it is none.
  Conditions: texts, bytes, ints.
-/
import Derived.Test.YtlniafpbkhkkaaaNameBack
namespace Go.Proofs.Ytlniafpbkhkkaaa
open Go.RowKit Go.Maps

theorem validS_iff {s : ByteArray} : validS s = true ↔ 0 < s.size ∧ s.size ≤ 12 ∧ ∀ j, j < s.size → okAt s j = true := by
  unfold validS
  rw [Bool.and_eq_true, decide_eq_true_eq, List.all_eq_true]
  constructor
  · rintro ⟨⟨h1, h2⟩, h3⟩
    exact ⟨h1, h2, fun j hj => h3 j (List.mem_range.2 hj)⟩
  · rintro ⟨h1, h2, h3⟩
    exact ⟨⟨h1, h2⟩, fun j hj => h3 j (List.mem_range.1 hj)⟩
theorem validS_no {s : ByteArray} {j : Nat} (hj : j < s.size) (h : okAt s j = false) : validS s = false := by
  cases hv : validS s
  · rfl
  · have := (validS_iff.1 hv).2.2 j hj
    rw [h] at this
    cases this
theorem okAt_congr {s t : ByteArray} {j : Nat} (h : byteAt s j = byteAt t j) : okAt s j = okAt t j := by unfold okAt; rw [h]
theorem data_app (a b : ByteArray) : (a ++ b).data.toList = a.data.toList ++ b.data.toList := by
  simp
theorem size_app (a b : ByteArray) : (a ++ b).size = a.size + b.size := by
  rw [← len_data, data_app, List.length_append, len_data, len_data]
theorem byteAt_left {a b : ByteArray} {j : Nat} (h : j < a.size) : byteAt (a ++ b) j = byteAt a j := by
  unfold byteAt
  rw [data_app, List.getElem?_append_left (by rw [len_data]; exact h)]
theorem byteAt_right {a b : ByteArray} {j : Nat} (h : a.size ≤ j) : byteAt (a ++ b) j = byteAt b (j - a.size) := by
  unfold byteAt
  rw [data_app, List.getElem?_append_right (by rw [len_data]; exact h), len_data]
theorem cut_data (s : ByteArray) (k : Nat) : (s.extract 0 k).data.toList = s.data.toList.take k := by
  simp
theorem cut_size {s : ByteArray} {k : Nat} (h : k ≤ s.size) : (s.extract 0 k).size = k := by
  rw [← len_data, cut_data, List.length_take, len_data]
  omega
theorem byteAt_cut {s : ByteArray} {k j : Nat} (h : j < k) : byteAt (s.extract 0 k) j = byteAt s j := by
  unfold byteAt
  rw [cut_data, List.getElem?_take]
  rw [if_pos h]
/-- A space at the end. -/
theorem valid_space (s : ByteArray) : validS (s ++ ⟨#[32]⟩) = false := by
  refine validS_no (j := s.size) (by rw [size_app]; exact Nat.lt_succ_self _) ?_
  unfold okAt
  rw [byteAt_right (Nat.le_refl _), Nat.sub_self]
  show (decide (65 ≤ 32 ∧ 32 ≤ 90) || (decide (s.size ≠ 0) && decide (48 ≤ 32 ∧ 32 ≤ 57))) = false
  cases decide (s.size ≠ 0) <;> rfl
/-- A digit at the head. -/
theorem valid_digit (s : ByteArray) : validS (⟨#[49]⟩ ++ s) = false := by
  refine validS_no (j := 0) (by rw [size_app]; show 0 < 1 + s.size; omega) ?_
  unfold okAt
  rw [byteAt_left (by decide)]
  rfl
theorem valid_cut {s : ByteArray} (h : validS s = true) {k : Nat} (h1 : 1 ≤ k) (h2 : k ≤ s.size) : validS (s.extract 0 k) = true := by
  obtain ⟨a1, a2, a3⟩ := validS_iff.1 h
  refine validS_iff.2 ⟨by rw [cut_size h2]; omega, by rw [cut_size h2]; omega, fun j hj => ?_⟩
  rw [cut_size h2] at hj
  rw [okAt_congr (byteAt_cut hj)]
  exact a3 j (by omega)
def goodB (c : Nat) : Bool := decide (65 ≤ c ∧ c ≤ 90) || decide (48 ≤ c ∧ c ≤ 57)
theorem valid_with {s : ByteArray} (h : validS s = true) {k : Nat} (h1 : 1 ≤ k) (h2 : k ≤ s.size) {c : Nat} (hc : c < 256) : validS (s.extract 0 k ++ ⟨#[UInt8.ofNat c]⟩) = (goodB c && decide (k < 12)) := by
  obtain ⟨a1, a2, a3⟩ := validS_iff.1 h
  have hsz : (s.extract 0 k ++ ⟨#[UInt8.ofNat c]⟩).size = k + 1 := by rw [size_app, cut_size h2]; rfl
  have hlast : okAt (s.extract 0 k ++ ⟨#[UInt8.ofNat c]⟩) k = goodB c := by
    unfold okAt goodB
    rw [byteAt_right (by rw [cut_size h2]; exact Nat.le_refl _), cut_size h2, Nat.sub_self]
    have e : byteAt ⟨#[UInt8.ofNat c]⟩ 0 = c := by
      show (UInt8.ofNat c).toNat = c
      rw [UInt8.toNat_ofNat']
      omega
    rw [e, decide_eq_true (show k ≠ 0 by omega)]
    rfl
  cases hg : goodB c
  · rw [hg] at hlast
    exact validS_no (by omega) hlast
  · rw [hg] at hlast
    by_cases h12 : k < 12
    · rw [decide_eq_true h12]
      refine validS_iff.2 ⟨by omega, by omega, fun j hj => ?_⟩
      rcases Nat.lt_or_ge j k with h3 | h3
      · rw [okAt_congr (byteAt_left (by rw [cut_size h2]; exact h3)), okAt_congr (byteAt_cut h3)]
        exact a3 j (by omega)
      · obtain rfl : j = k := by omega
        exact hlast
    · rw [decide_eq_false h12]
      cases hv : validS (s.extract 0 k ++ ⟨#[UInt8.ofNat c]⟩)
      · rfl
      · have := (validS_iff.1 hv).2.1
        omega

theorem conv_one (c : Nat) (hc : c < 256) (W : World) : (convert 30 9 (.slice (some ⟨W.heap.size, 0, none⟩) 1 1)).run Try.prog (W.alloc (.cells #[.int .u8 c] 5)) = .ok (.string ⟨#[UInt8.ofNat c]⟩) (W.alloc (.cells #[.int .u8 c] 5)) := by
  refine run_bytes_string (l := [UInt8.ofNat c]) (B := W.heap.size + 1) _ Try.underlying30 Try.underlying5 Try.underlying9 rfl ?_
  have h := reads_newV W [Value.int .u8 c] 5 #[.int .u8 c] rfl rfl rfl (Nat.lt_succ_self W.heap.size)
  have e : Lib.byteCells [UInt8.ofNat c] = [Value.int .u8 c] := by
    simp only [Lib.byteCells, List.map_cons, List.map_nil]
    rw [UInt8.toNat_ofNat', Nat.mod_eq_of_lt (by omega)]
  rw [e]
  exact h

end Go.Proofs.Ytlniafpbkhkkaaa
