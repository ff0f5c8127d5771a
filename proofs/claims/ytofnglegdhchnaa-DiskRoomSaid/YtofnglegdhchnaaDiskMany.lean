/-
  Names 'f0', 'f1' and so on; a map of so many empty files.
  Conditions: at most 60 files.
-/
import Derived.Test.YtofnglegdhchnaaDiskKeeps
namespace Go.Proofs.Ytofnglegdhchnaa
open Go.RowKit Go.Maps Go.Sort

def nameI (i : Nat) : ByteArray := ⟨#[102, UInt8.ofNat (48 + i)]⟩
theorem nameI_inj {i j : Nat} (hi : i ≤ 60) (hj : j ≤ 60) (h : nameI i = nameI j) : i = j := by
  unfold nameI at h
  injection h with h
  have h1 := congrArg (fun a : Array UInt8 => (a.toList.getD 1 0).toNat) h
  have h2 : (UInt8.ofNat (48 + i)).toNat = (UInt8.ofNat (48 + j)).toNat := h1
  rw [UInt8.toNat_ofNat', UInt8.toNat_ofNat'] at h2
  omega
theorem nameI_valid (i : Nat) : validB (nameI i) = true := by
  unfold validB nameI
  rfl
theorem nameI_size (i : Nat) : (nameI i).size ≤ 9223372036854775807 := by
  show 2 ≤ _
  decide
theorem nameI_zero : nameI 0 = ⟨#[102, 48]⟩ := rfl
/-- So many empty files. -/
def fsK : Nat → DataW Unit
  | 0 => .map []
  | k + 1 => putF (fsK k) (nameI k) ⟨#[]⟩ 0
theorem fsK_all : ∀ {k : Nat}, k ≤ 60 → GoodF (fsK k) ∧ Maps.size (fsK k) = k ∧ totF (fsK k) = 0 ∧ ∀ s, hasS (fsK k) s = true ↔ ∃ j, j < k ∧ s = nameI j
  | 0, _ => ⟨goodF_none, rfl, rfl, fun s => by
      constructor
      · intro h; cases h
      · rintro ⟨j, h, _⟩; omega⟩
  | k + 1, h => by
    obtain ⟨h1, h2, h3, h4⟩ := fsK_all (k := k) (by omega)
    have hn : hasS (fsK k) (nameI k) = false := by
      cases hh : hasS (fsK k) (nameI k)
      · rfl
      · obtain ⟨j, hj, e⟩ := (h4 _).1 hh
        have := nameI_inj (by omega) (by omega) e
        omega
    refine ⟨h1.put _ _ (Int.le_refl _) (Int.le_refl _), ?_, ?_, fun s => ?_⟩
    · show Maps.size (putF (fsK k) (nameI k) ⟨#[]⟩ 0) = k + 1
      rw [sizeF_put h1, hn, h2]
      rfl
    · have := totF_put_le h1 (nameI k) ⟨#[]⟩ 0
      have e : (⟨#[]⟩ : ByteArray).size = 0 := rfl
      show totF (putF (fsK k) (nameI k) ⟨#[]⟩ 0) = 0
      omega
    · show hasS (putF (fsK k) (nameI k) ⟨#[]⟩ 0) s = true ↔ _
      rw [hasF_put h1, h4]
      constructor
      · rintro (rfl | ⟨j, hj, rfl⟩)
        · exact ⟨k, by omega, rfl⟩
        · exact ⟨j, by omega, rfl⟩
      · rintro ⟨j, hj, rfl⟩
        rcases Nat.lt_or_ge j k with h5 | h5
        · exact .inr ⟨j, h5, rfl⟩
        · exact .inl (by rw [show j = k by omega])
theorem fsK_new {k i : Nat} (hk : k ≤ 60) (hi : i ≤ 60) (h : k ≤ i) : hasS (fsK k) (nameI i) = false := by
  cases hh : hasS (fsK k) (nameI i)
  · rfl
  · obtain ⟨j, hj, e⟩ := ((fsK_all hk).2.2.2 _).1 hh
    have := nameI_inj hi (by omega) e
    omega
theorem conv_name (i : Nat) (hi : i ≤ 60) (W : World) : (convert 32 9 (.slice (some ⟨W.heap.size, 0, none⟩) 2 2)).run Try.prog (W.alloc (.cells #[.int .u8 102, .int .u8 (48 + (i : Int))] 5)) = .ok (.string (nameI i)) (W.alloc (.cells #[.int .u8 102, .int .u8 (48 + (i : Int))] 5)) := by
  refine run_bytes_string (l := [102, UInt8.ofNat (48 + i)]) (B := W.heap.size + 1) _ Try.underlying32 Try.underlying5 Try.underlying9 rfl ?_
  have h := reads_newV W [Value.int .u8 102, Value.int .u8 (48 + (i : Int))] 5 #[.int .u8 102, .int .u8 (48 + (i : Int))] rfl rfl rfl (Nat.lt_succ_self W.heap.size)
  have e : Lib.byteCells [102, UInt8.ofNat (48 + i)] = [Value.int .u8 102, Value.int .u8 (48 + (i : Int))] := by
    simp only [Lib.byteCells, List.map_cons, List.map_nil]
    rw [UInt8.toNat_ofNat', Nat.mod_eq_of_lt (by omega)]
    rfl
  rw [e]
  exact h
end Go.Proofs.Ytofnglegdhchnaa
