/-
  Package wire's reader as contracts: num (a number from the reader's place on).
  Conditions: a reader whose block is known, of at most 10^9 bytes.
-/
import Derived.Test.YtjhinifmdjlblaaGreatWire3
import Derived.Test.YtjhinifmdjlblaaGreatClone
namespace Go.Proofs.YtjhinifmdjlblaaGreat.Wi
open Go.RowKit

/-- A reader in block g: its error, its bytes, its place. -/
def RdAt (g : Nat) (e : Int) (s : ByteArray) (k : Nat) (w : World) : Prop := w.heap[g]? = some (.cells #[.int .i64 e, .string s, .int .i64 k] 146 (0, 0))
section
variable {g : Nat} {e : Int} {s : ByteArray} {k : Nat} {w w' : World}
theorem RdAt.lt (h : RdAt g e s k w) : g < w.heap.size := by
  rcases Nat.lt_or_ge g w.heap.size with hlt | hge
  · exact hlt
  · unfold RdAt at h; rw [Array.getElem?_eq_none hge] at h; cases h
theorem RdAt.cell0 (h : RdAt g e s k w) : w.cell? ⟨g, 0, none⟩ = some (.int .i64 e) := by rw [Lib.cell_of_heap h]; rfl
theorem RdAt.cell1 (h : RdAt g e s k w) : w.cell? ⟨g, 1, none⟩ = some (.string s) := by rw [Lib.cell_of_heap h]; rfl
theorem RdAt.cell2 (h : RdAt g e s k w) : w.cell? ⟨g, 2, none⟩ = some (.int .i64 k) := by rw [Lib.cell_of_heap h]; rfl
theorem RdAt.frozen (h : RdAt g e s k w) (i : Nat) : w.frozen? ⟨g, i, none⟩ = false := Lib.frozen_of_heap h i
theorem RdAt.drewN (h : RdAt g e s k w) (n : Nat) : RdAt g e s k (w.drewN n) := h
theorem RdAt.set0 (h : RdAt g e s k w) (x : Int) : RdAt g x s k (w.setCell ⟨g, 0, none⟩ (.int .i64 x)) := by
  unfold RdAt at h ⊢
  simp [World.setCell, Array.getElem?_modify, h]
theorem RdAt.set2 (h : RdAt g e s k w) (x : Nat) : RdAt g e s x (w.setCell ⟨g, 2, none⟩ (.int .i64 x)) := by
  unfold RdAt at h ⊢
  simp [World.setCell, Array.getElem?_modify, h]
theorem RdAt.keep (h : RdAt g e s k w) (e' : w'.heap[g]? = w.heap[g]?) : RdAt g e s k w' := e'.trans h
end

/-- What num tells: the number, the place behind it, the error. -/
def numTells (s : ByteArray) (k : Nat) : Int × Nat × Int := match Wire.dec 0 0 (s.data.toList.drop k) with
  | .error x => (0, 0, x)
  | .ok (n, m) => (Wire.unzz n, k + m, 0)

theorem numTells_err {s : ByteArray} {k x : Nat} (h : Wire.dec 0 0 (s.data.toList.drop k) = .error x) : numTells s k = (0, 0, (x : Int)) := by unfold numTells; rw [h]
theorem numTells_ok {s : ByteArray} {k n m : Nat} (h : Wire.dec 0 0 (s.data.toList.drop k) = .ok (n, m)) : numTells s k = (Wire.unzz n, k + m, 0) := by unfold numTells; rw [h]

set_option maxHeartbeats 2000000 in
set_option maxRecDepth 100000 in
theorem rnum_any (g : Nat) (s : ByteArray) (k : Nat) (w : World) (hk : k ≤ s.size) (hs : s.size ≤ 1000000000) (c1 : w.cell? ⟨g, 1, none⟩ = some (.string s)) (c2 : w.cell? ⟨g, 2, none⟩ = some (.int .i64 k)) :
    Calls Tryz.prog 136 #[.pointer (some ⟨g, 0, none⟩)] w fun r w' => r = .returned (.tuple #[.int .i64 (numTells s k).1, .int .i64 (numTells s k).2.1, .int .i64 (numTells s k).2.2]) ∧ ∃ q, w' = w.drewN q := by
  go_enter Tryz.func136, Tryz.ntmps136
  go_wp2
  go_loopw [5, 6] (fun n i wr => ∃ (j acc q : Nat), n = .int .u64 acc ∧ i = .int .i64 j ∧ j ≤ 9 ∧ k + j ≤ s.size ∧ Hid (acc < 128 ^ j) ∧ Hid (Wire.dec 0 0 (s.data.toList.drop k) = Wire.dec j acc (s.data.toList.drop (k + j))) ∧ wr = w.drewN q) (fun _ i _ => 10 - (intOf i).toNat)
  case atStart => exact ⟨0, 0, 0, rfl, rfl, by omega, by omega, by simp [Hid], by simp [Hid], rfl⟩
  case round =>
    obtain ⟨j, acc, q, rfl, rfl, hj, hkj, HA, HD, rfl⟩ := hrel
    have hj10 : ((j : Int) == 10) = false := by simp; omega
    have b0 : (0 : Int) ≤ (k : Int) + j := by omega
    have b2 : ((k : Int) + j).toNat = k + j := by omega
    have b4 : IntKind.i64.wrap ((k : Int) + j) = k + j := IntWalk.i64_in _ (by omega)
    by_cases hlt : k + j < s.size
    · have b1 : (k : Int) + j < s.size := by omega
      have b3 : decide ((s.size : Int) ≤ k + j) = false := by simp; omega
      obtain ⟨c, hc⟩ : ∃ c : UInt8, s[k + j] = c := ⟨_, rfl⟩
      have hdrop : s.data.toList.drop (k + j) = c :: s.data.toList.drop (k + j + 1) := by
        rw [drop_cons (byte_at s hlt), hc]
      have Hdrop := Lib.hid hdrop; clear hdrop
      have hcl := c.toNat_lt
      go_wp2
      go_quiet (fail)
      go_wp2
      go_quiet (fail)
      by_cases h9 : j = 9 ∧ 1 < c.toNat
      · obtain ⟨h9e, h1c⟩ := h9
        have h9b : ((j : Int) == 9) = true := by simp; omega
        have H9e := Lib.hid h9e; clear h9e
        have h1c' : (1 : Int) < (c.toNat : Int) := by omega
        go_wp2
        go_ret3
        refine ⟨?_, _, rfl⟩
        have : numTells s k = (0, 0, ((4 : Nat) : Int)) := numTells_err (by
          rw [HD.out, Hdrop.out]
          simp only [Wire.dec]
          rw [if_pos ⟨H9e.out, h1c⟩])
        rw [this]; rfl
      · have h9c : j = 9 → c.toNat ≤ 1 := fun h => by rcases Nat.lt_or_ge 1 c.toNat with h' | h'; exact absurd ⟨h, h'⟩ h9; exact h'
        have hor := or_group acc c.toNat j hj hcl h9c HA.out
        obtain ⟨acc', hacc'⟩ : ∃ acc' : Nat, acc + c.toNat % 128 * 128 ^ j = acc' := ⟨_, rfl⟩
        rw [hacc'] at hor
        have Hacc' := Lib.hid hacc'; clear hacc'
        have hlow := and_low c.toNat hcl
        have htop := and_top c.toNat hcl
        have H9c := Lib.hid h9c; clear h9c
        have H9 := Lib.hid h9; clear h9
        obtain ⟨t9, h9b, h9d⟩ : ∃ t : Bool, ((j : Int) == 9) = t ∧ (t = true → c.toNat ≤ 1) :=
          ⟨_, rfl, fun h => by
            exact H9c.out (by have := of_decide_eq_true h; omega)⟩
        have h128j : 128 ≤ c.toNat → ¬ j = 9 := fun h1 h2 => by
          have h' : c.toNat ≤ 1 := H9c.out h2
          clear hlow htop
          omega
        have H128j := Lib.hid h128j; clear h128j
        by_cases h128 : 128 ≤ c.toNat
        · rw [if_pos h128] at htop
          have hj9 := H128j.out h128
          cases t9
          · clear h9d
            go_wp2
            case roundEnd =>
              refine ⟨⟨j + 1, acc', _, rfl, by go_num, by omega, by omega, ?_, ?_, rfl⟩, by simp [intOf]; omega⟩
              · show _ < _
                rw [← Hacc'.out]; exact acc_step HA.out
              · show _ = _
                rw [HD.out, Hdrop.out]
                simp only [Wire.dec]
                rw [if_neg H9.out, if_pos h128, Hacc'.out, Nat.add_assoc]
          · exact absurd (by have := of_decide_eq_true h9b; omega) hj9
        · rw [if_neg h128] at htop
          have hacc2 : acc' < 18446744073709551616 := by
            rw [← Hacc'.out, Nat.mod_eq_of_lt (by omega)]
            exact acc_last hj (by omega) H9c.out HA.out
          have Hacc2 := Lib.hid hacc2
          clear hacc2
          by_cases hz : c.toNat = 0 ∧ 0 < j
          · have hz0 : ((c.toNat : Int) == 0) = true := by simp; omega
            have hz1 : (0 : Int) < (j : Int) := by omega
            have Hz := Lib.hid hz; clear hz
            cases t9
            all_goals
              first
                | (have h9e := h9d rfl; clear h9d)
                | clear h9d
              go_wp2
              go_ret3
              refine ⟨?_, _, rfl⟩
              have : numTells s k = (0, 0, ((4 : Nat) : Int)) := numTells_err (by
                rw [HD.out, Hdrop.out]
                simp only [Wire.dec]
                rw [if_neg H9.out, if_neg h128, if_pos Hz.out])
              rw [this]; rfl
          · have Hz := Lib.hid hz
            have hzb : ((c.toNat : Int) == 0) = true → j ≤ 0 := fun h => by
              have := of_decide_eq_true h
              omega
            have hone := and_one acc' Hacc2.out
            have hx0 := xor_none (acc' / 2) (by have := Hacc2.out; omega)
            have hx1 := xor_all (acc' / 2) (by have := Hacc2.out; omega)
            have hfin : numTells s k = (Wire.unzz acc', k + (j + 1), 0) := numTells_ok (by
              rw [HD.out, Hdrop.out]
              simp only [Wire.dec]
              rw [if_neg H9.out, if_neg h128, if_neg Hz.out, ← Hacc'.out, Nat.mod_eq_of_lt (by omega)])
            have Hfin := Lib.hid hfin; clear hfin hz
            have e2 : IntKind.i64.wrap ((acc' : Int) / 2) = (acc' : Int) / 2 := IntWalk.i64_in _ (by have := Hacc2.out; omega)
            cases t9
            all_goals
              first
                | (have h9e := h9d rfl; clear h9d)
                | clear h9d
              obtain ⟨tz, hz0, hz1⟩ : ∃ t : Bool, ((c.toNat : Int) == 0) = t ∧ (t = true → j ≤ 0) := ⟨_, rfl, hzb⟩
              clear hzb
              cases tz
              all_goals
                first
                  | (have h0e := hz1 rfl; clear hz1)
                  | clear hz1
                by_cases hodd : acc' % 2 = 1
                · rw [hodd] at hone
                  go_wp2
                  go_quiet (fail)
                  go_wp2
                  go_ret3
                  rw [Hfin.out]
                  refine ⟨?_, _, World.drewN_drewN _ _ _⟩
                  have hu : bits .xor .i64 ((acc' : Int) / 2) (-1) = Wire.unzz acc' := by
                    have h1 : ((acc' / 2 : Nat) : Int) = (acc' : Int) / 2 := by omega
                    rw [← h1, hx1]; unfold Wire.unzz; rw [if_neg (by omega)]
                  rw [hu, show (k : Int) + j + 1 = ((k + (j + 1) : Nat) : Int) from by omega]
                  rfl
                · rw [show acc' % 2 = 0 from by omega] at hone
                  go_wp2
                  go_quiet (fail)
                  go_wp2
                  go_ret3
                  rw [Hfin.out]
                  refine ⟨?_, _, World.drewN_drewN _ _ _⟩
                  have hu : bits .xor .i64 ((acc' : Int) / 2) 0 = Wire.unzz acc' := by
                    have h1 : ((acc' / 2 : Nat) : Int) = (acc' : Int) / 2 := by omega
                    rw [← h1, hx0]; unfold Wire.unzz; rw [if_pos (by omega)]
                  rw [hu, show (k : Int) + j + 1 = ((k + (j + 1) : Nat) : Int) from by omega]
                  rfl
    · have b1 : decide ((s.size : Int) ≤ k + j) = true := by simp; omega
      have hnil : s.data.toList.drop (k + j) = [] := List.drop_of_length_le (by rw [len_data]; omega)
      have Hnil := Lib.hid hnil; clear hnil
      go_wp2
      go_quiet (fail)
      go_wp2
      go_ret3
      refine ⟨?_, _, World.drewN_drewN _ _ _⟩
      have : numTells s k = (0, 0, ((5 : Nat) : Int)) := numTells_err (by rw [HD.out, Hnil.out]; rfl)
      rw [this]; rfl
end Go.Proofs.YtjhinifmdjlblaaGreat.Wi
