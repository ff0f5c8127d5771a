/-
  The reference's reader, whose bytes are cut, as the program's reader, whose place moves: Num, Text, Bool tell the same.
  Conditions: readers that the call has made, of at most 10^9 bytes.
-/
import Derived.Test.YtkcecijepbceiaaRr1
namespace Go.Proofs.Ytkcecijepbceiaa
open Go.RowKit

def cutAt (s : ByteArray) (k : Nat) : ByteArray := s.extract k s.size
theorem cutAt_list (s : ByteArray) (k : Nat) : (cutAt s k).data.toList = s.data.toList.drop k := by
  unfold cutAt
  rw [ByteArray.data_extract, Array.toList_extract, List.extract_eq_take_drop, List.take_of_length_le]
  rw [List.length_drop, Array.length_toList]
  exact Nat.le_refl _
theorem cutAt_size (s : ByteArray) (k : Nat) : (cutAt s k).size = s.size - k := by
  have h := congrArg List.length (cutAt_list s k)
  rw [List.length_drop, Array.length_toList, Array.length_toList] at h
  exact h
theorem bytes_ext {a b : ByteArray} (h : a.data.toList = b.data.toList) : a = b := by
  cases a; cases b; congr 1; exact Array.toList_inj.1 h
theorem cutAt_cut (s : ByteArray) (k n : Nat) : cutAt (cutAt s k) n = cutAt s (k + n) := bytes_ext (by rw [cutAt_list, cutAt_list, cutAt_list, List.drop_drop])
theorem cutAt_part (s : ByteArray) (k a b : Nat) : (cutAt s k).extract a b = s.extract (k + a) (k + b) := bytes_ext (by
  rw [ByteArray.data_extract, Array.toList_extract, List.extract_eq_take_drop, cutAt_list, ByteArray.data_extract, Array.toList_extract, List.extract_eq_take_drop, List.drop_drop]
  congr 1; omega)
theorem tells_cut (s : ByteArray) (k : Nat) : numTells (cutAt s k) 0 = ((numTells s k).1, (numTells (cutAt s k) 0).2.1, (numTells s k).2.2) ∧ ((numTells s k).2.2 = 0 → (numTells s k).2.1 = k + (numTells (cutAt s k) 0).2.1) := by
  have e : (cutAt s k).data.toList.drop 0 = s.data.toList.drop k := by rw [List.drop_zero, cutAt_list]
  cases hd : Wire.dec 0 0 (s.data.toList.drop k) with
  | error x =>
    rw [numTells_err hd, numTells_err (e.symm ▸ hd)]
    refine ⟨rfl, fun h => ?_⟩
    rcases Wire.dec_err _ _ _ _ hd with rfl | rfl <;> cases h
  | ok z =>
    obtain ⟨n, m⟩ := z
    rw [numTells_ok hd, numTells_ok (e.symm ▸ hd)]
    exact ⟨rfl, fun _ => by show k + m = k + (0 + m); omega⟩
/-- The reference's reader that stands where the program's stands. -/
def RcAt (g : Nat) (s : ByteArray) (r : Rd) (w : World) : Prop := RrAt g r.e (cutAt s r.k) w
section
variable {g : Nat} {s : ByteArray} {r : Rd} {w w' : World}
theorem RcAt.lt (h : RcAt g s r w) : g < w.heap.size := RrAt.lt h
theorem RcAt.keep (h : RcAt g s r w) (e' : w'.heap[g]? = w.heap[g]?) : RcAt g s r w' := RrAt.keep h e'
theorem RcAt.drewN (h : RcAt g s r w) (n : Nat) : RcAt g s r (w.drewN n) := h
theorem RcAt.below (h : RcAt g s r w) (hb : Below w.heap.size w w') : RcAt g s r w' := h.keep (hb.block g h.lt)
theorem RcAt.aside {T T' : List Nat} (h : RcAt g s r w) (hm : Mv T T' w w') (hg : g ∉ T) : RcAt g s r w' := h.keep (hm.block g h.lt hg)
end
theorem rcNum_any (g : Nat) (s : ByteArray) (r : Rd) (w : World) (h : RcAt g s r w) (hs : s.size ≤ 1000000000) :
    Calls Try.prog 48 #[.pointer (some ⟨g, 0, none⟩)] w fun x w' => x = .returned (.int .i64 (rdNum s r).1) ∧ RcAt g s (rdNum s r).2 w' ∧ Mv [g] [g] w w' := by
  obtain ⟨re, k⟩ := r
  have hc : (cutAt s k).size ≤ 1000000000 := by rw [cutAt_size]; omega
  obtain ⟨t1, t2⟩ := tells_cut s k
  have t3 : (numTells (cutAt s k) 0).2.2 = (numTells s k).2.2 := by rw [t1]
  have t4 : (numTells (cutAt s k) 0).1 = (numTells s k).1 := by rw [t1]
  by_cases he : re = 0
  · subst he
    by_cases hx : (numTells s k).2.2 = 0
    · have e : rdNum s ⟨0, k⟩ = ((numTells s k).1, ⟨0, (numTells s k).2.1⟩) := by
        unfold rdNum; rw [if_neg (by simp), if_neg (by simp [hx])]
      rw [e, ← t4]
      refine (rrNum_ok g (cutAt s k) w h hc (t3.trans hx)).mono ?_
      rintro e w' ⟨rfl, h2, hm⟩
      refine ⟨rfl, ?_, hm⟩
      show RrAt g 0 (cutAt s (numTells s k).2.1) w'
      rw [t2 hx, ← cutAt_cut]
      exact h2
    · have e : rdNum s ⟨0, k⟩ = (0, ⟨(numTells s k).2.2, k⟩) := by
        unfold rdNum; rw [if_neg (by simp), if_pos (by simpa using hx)]
      rw [e]
      exact rrNum_bad g (cutAt s k) _ w h hc hx t3
  · have e : rdNum s ⟨re, k⟩ = (0, ⟨re, k⟩) := by unfold rdNum; rw [if_pos he]
    rw [e]
    exact rrNum_off g (cutAt s k) re w h he
theorem rcText_any (g : Nat) (s : ByteArray) (r : Rd) (w : World) (h : RcAt g s r w) (hk : r.k ≤ s.size) (hs : s.size ≤ 1000000000) :
    Calls Try.prog 51 #[.pointer (some ⟨g, 0, none⟩)] w fun x w' => x = .returned (.string (rdText s r).1) ∧ RcAt g s (rdText s r).2 w' ∧ Mv [g] [g] w w' := by
  obtain ⟨re, k⟩ := r
  have hk' : k ≤ s.size := hk
  have hcs := cutAt_size s k
  have hc : (cutAt s k).size ≤ 1000000000 := by omega
  obtain ⟨t1, t2⟩ := tells_cut s k
  have t3 : (numTells (cutAt s k) 0).2.2 = (numTells s k).2.2 := by rw [t1]
  have t4 : (numTells (cutAt s k) 0).1 = (numTells s k).1 := by rw [t1]
  by_cases he : re = 0
  · subst he
    have hE : rrTextErr (cutAt s k) = textErr s k := by
      unfold rrTextErr textErr
      rw [t3, t4]
      by_cases hx : (numTells s k).2.2 = 0
      · rw [t2 hx, hcs]
        have e : ((s.size - k : Nat) : Int) - (numTells (cutAt s k) 0).2.1 = (s.size : Int) - ((k + (numTells (cutAt s k) 0).2.1 : Nat) : Int) := by omega
        rw [e]
      · rw [if_pos hx, if_pos hx]
    by_cases hok : textErr s k = 0
    · have hn0 : (numTells s k).2.2 = 0 := by
        unfold textErr at hok
        split at hok
        · exact absurd hok (by assumption)
        · rename_i h1; simpa using h1
      have hle := numTells_le hk' hn0
      have hb : 0 ≤ (numTells s k).1 ∧ (numTells s k).1 ≤ 1000 ∧ (numTells s k).1 ≤ (s.size : Int) - (numTells s k).2.1 := by
        unfold textErr at hok
        rw [if_neg (by simp [hn0])] at hok
        split at hok
        · cases hok
        · split at hok
          · cases hok
          · split at hok
            · cases hok
            · omega
      have hres : rdText s ⟨0, k⟩ = (s.extract (numTells s k).2.1 ((numTells s k).2.1 + (numTells s k).1.toNat), ⟨0, (numTells s k).2.1 + (numTells s k).1.toNat⟩) := by
        unfold rdText
        rw [if_neg (by simp), if_neg (by simp [hok])]
      rw [hres]
      have hk2 := t2 hn0
      have ht : numTells (cutAt s k) 0 = (((numTells s k).1.toNat : Int), (numTells (cutAt s k) 0).2.1, 0) := by
        rw [Int.toNat_of_nonneg hb.1, ← hn0]; exact t1
      refine (rrText_ok g (cutAt s k) (numTells (cutAt s k) 0).2.1 (numTells s k).1.toNat w h hc ht (by omega) (by omega)).mono ?_
      rintro e w' ⟨rfl, h2, hm⟩
      refine ⟨?_, ?_, hm⟩
      · rw [cutAt_part, hk2, Nat.add_assoc]
      · show RrAt g 0 (cutAt s ((numTells s k).2.1 + (numTells s k).1.toNat)) w'
        rw [hk2, Nat.add_assoc, ← cutAt_cut]
        exact h2
    · have hres : rdText s ⟨0, k⟩ = (⟨#[]⟩, ⟨textErr s k, k⟩) := by
        unfold rdText
        rw [if_neg (by simp), if_pos hok]
      rw [hres]
      have := rrText_bad g (cutAt s k) w h hc (by rw [hE]; exact hok)
      rw [hE] at this
      exact this
  · have hres : rdText s ⟨re, k⟩ = (⟨#[]⟩, ⟨re, k⟩) := by unfold rdText; rw [if_pos he]
    rw [hres]
    exact rrText_off g (cutAt s k) re w h he
theorem cutAt_zero {s : ByteArray} {k : Nat} (h : k < s.size) (h' : 0 < (cutAt s k).size) : ((cutAt s k)[0] : UInt8) = s[k] := by
  have e1 := byte_at (cutAt s k) h'
  have e2 := byte_at s h
  rw [cutAt_list, List.getElem?_drop, Nat.add_zero, e2] at e1
  injection e1 with e1
  exact e1.symm
theorem rcBool_any (g : Nat) (s : ByteArray) (r : Rd) (w : World) (h : RcAt g s r w) (hk : r.k ≤ s.size) (hs : s.size ≤ 1000000000) :
    Calls Try.prog 49 #[.pointer (some ⟨g, 0, none⟩)] w fun x w' => x = .returned (.bool (rdBool s r).1) ∧ RcAt g s (rdBool s r).2 w' ∧ Mv [g] [g] w w' := by
  obtain ⟨re, k⟩ := r
  have hk' : k ≤ s.size := hk
  have hcs := cutAt_size s k
  have hc : (cutAt s k).size ≤ 1000000000 := by omega
  by_cases he : re = 0
  · subst he
    by_cases hend : k = s.size
    · have hres : rdBool s ⟨0, k⟩ = (false, ⟨5, k⟩) := by unfold rdBool; rw [if_neg (by simp), if_pos hend]
      rw [hres]
      exact rrBool_short g (cutAt s k) w h (by omega)
    · have hlt : k < s.size := by omega
      have hp : 0 < (cutAt s k).size := by omega
      by_cases hbig : 1 < byteOf s k
      · have hres : rdBool s ⟨0, k⟩ = (false, ⟨4, k⟩) := by unfold rdBool; rw [if_neg (by simp), if_neg hend, if_pos hbig]
        rw [hres]
        exact rrBool_form g (cutAt s k) w h hp hc (by rw [cutAt_zero hlt hp, byteOf_is hlt]; exact hbig)
      · have hres : rdBool s ⟨0, k⟩ = (decide (byteOf s k = 1), ⟨0, k + 1⟩) := by unfold rdBool; rw [if_neg (by simp), if_neg hend, if_neg hbig]
        rw [hres]
        refine (rrBool_ok g (cutAt s k) (decide (byteOf s k = 1)) w h hp hc ?_).mono ?_
        · rw [cutAt_zero hlt hp, byteOf_is hlt]
          by_cases h1 : byteOf s k = 1
          · rw [h1]; rfl
          · have h0 : byteOf s k = 0 := by omega
            rw [h0]; rfl
        · rintro e w' ⟨rfl, h2, hm⟩
          refine ⟨rfl, ?_, hm⟩
          show RrAt g 0 (cutAt s (k + 1)) w'
          rw [← cutAt_cut]
          exact h2
  · have hres : rdBool s ⟨re, k⟩ = (false, ⟨re, k⟩) := by unfold rdBool; rw [if_pos he]
    rw [hres]
    exact rrBool_off g (cutAt s k) re w h he
/-! ### a reader's place stays within its bytes -/
theorem rdNum_k {s : ByteArray} {r : Rd} (h : r.k ≤ s.size) : (rdNum s r).2.k ≤ s.size := by
  unfold rdNum
  split
  · exact h
  · split
    · exact h
    · rename_i _ h2
      exact numTells_le h (by simpa using h2)
theorem rdText_k {s : ByteArray} {r : Rd} (h : r.k ≤ s.size) : (rdText s r).2.k ≤ s.size := by
  unfold rdText
  split
  · exact h
  · split
    · exact h
    · rename_i _ h2
      have h2 : textErr s r.k = 0 := by simpa using h2
      unfold textErr at h2
      split at h2
      · exact absurd h2 (by assumption)
      · rename_i h3
        have := numTells_le h (by simpa using h3)
        split at h2
        · cases h2
        · split at h2
          · cases h2
          · split at h2
            · cases h2
            · show (numTells s r.k).2.1 + (numTells s r.k).1.toNat ≤ s.size
              omega
theorem rdBool_k {s : ByteArray} {r : Rd} (h : r.k ≤ s.size) : (rdBool s r).2.k ≤ s.size := by
  unfold rdBool
  split
  · exact h
  · split
    · exact h
    · split
      · exact h
      · show r.k + 1 ≤ s.size
        omega
end Go.Proofs.Ytkcecijepbceiaa
