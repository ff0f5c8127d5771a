/-
  A writer and a reader beside each other: what one does leaves the other as it was.
  Conditions: their blocks are apart.
-/
import Derived.Test.YtfmbadinfhpihaaGreatWire3
import Derived.Test.YtfmbadinfhpihaaGreatBuilder
set_option linter.unusedVariables false
set_option linter.unusedSimpArgs false
namespace Go.Proofs.YtfmbadinfhpihaaGreat.Wi
open Go.RowKit

/-- A reader in block g: its error, its bytes, its place. -/
def RdAt (g : Nat) (e : Int) (s : ByteArray) (k : Nat) (w : World) : Prop := w.heap[g]? = some (.cells #[.int .i64 e, .string s, .int .i64 k] 288 (0, 0))
section
variable {g : Nat} {e : Int} {s : ByteArray} {k : Nat} {w w' : World}
theorem RdAt.lt (h : RdAt g e s k w) : g < w.heap.size := by
  rcases Nat.lt_or_ge g w.heap.size with hlt | hge
  · exact hlt
  · unfold RdAt at h; rw [Array.getElem?_eq_none hge] at h; cases h
theorem RdAt.cell0 (h : RdAt g e s k w) : w.cell? ⟨g, 0, none⟩ = some (.int .i64 e) := by rw [Lib.cell_of_heap h]; rfl
theorem RdAt.cell1 (h : RdAt g e s k w) : w.cell? ⟨g, 1, none⟩ = some (.string s) := by rw [Lib.cell_of_heap h]; rfl
theorem RdAt.cell2 (h : RdAt g e s k w) : w.cell? ⟨g, 2, none⟩ = some (.int .i64 k) := by rw [Lib.cell_of_heap h]; rfl
theorem RdAt.frozen (h : RdAt g e s k w) (i : Nat) : w.frozen? ⟨g, i, none⟩ = false := Lib.frozen_of_heap h i
theorem RdAt.drewN (h : RdAt g e s k w) (n : Nat) : RdAt g e s k (w.drewN n) := h
theorem RdAt.set0 (h : RdAt g e s k w) (x : Int) : RdAt g x s k (w.setCell ⟨g, 0, none⟩ (.int .i64 x)) := by
  unfold RdAt at h ⊢
  simp [World.setCell, Array.getElem?_modify, h]
theorem RdAt.set2 (h : RdAt g e s k w) (x : Nat) : RdAt g e s x (w.setCell ⟨g, 2, none⟩ (.int .i64 x)) := by
  unfold RdAt at h ⊢
  simp [World.setCell, Array.getElem?_modify, h]
theorem RdAt.keep (h : RdAt g e s k w) (e' : w'.heap[g]? = w.heap[g]?) : RdAt g e s k w' := e'.trans h
end

/-- What num tells: the number, the place behind it, the error. -/
def numTells (s : ByteArray) (k : Nat) : Int × Nat × Int := match Wire.dec 0 0 (s.data.toList.drop k) with
  | .error x => (0, 0, x)
  | .ok (n, m) => (Wire.unzz n, k + m, 0)

theorem numTells_err {s : ByteArray} {k x : Nat} (h : Wire.dec 0 0 (s.data.toList.drop k) = .error x) : numTells s k = (0, 0, (x : Int)) := by unfold numTells; rw [h]
theorem numTells_ok {s : ByteArray} {k n m : Nat} (h : Wire.dec 0 0 (s.data.toList.drop k) = .ok (n, m)) : numTells s k = (Wire.unzz n, k + m, 0) := by unfold numTells; rw [h]

set_option maxHeartbeats 2000000 in
set_option maxRecDepth 100000 in
theorem rnum_any (g : Nat) (s : ByteArray) (k : Nat) (w : World) (hk : k ≤ s.size) (hs : s.size ≤ 1000000000) (c1 : w.cell? ⟨g, 1, none⟩ = some (.string s)) (c2 : w.cell? ⟨g, 2, none⟩ = some (.int .i64 k)) :
    Calls Tryz.prog 230 #[.pointer (some ⟨g, 0, none⟩)] w fun r w' => r = .returned (.tuple #[.int .i64 (numTells s k).1, .int .i64 (numTells s k).2.1, .int .i64 (numTells s k).2.2]) ∧ ∃ q, w' = w.drewN q := by
  go_enter Tryz.func230, Tryz.ntmps230
  go_wp2
  go_loopw [5, 6] (fun n i wr => ∃ (j acc q : Nat), n = .int .u64 acc ∧ i = .int .i64 j ∧ j ≤ 9 ∧ k + j ≤ s.size ∧ Hid (acc < 128 ^ j) ∧ Hid (Wire.dec 0 0 (s.data.toList.drop k) = Wire.dec j acc (s.data.toList.drop (k + j))) ∧ wr = w.drewN q) (fun _ i _ => 10 - (intOf i).toNat)
  case atStart => exact ⟨0, 0, 0, rfl, rfl, by omega, by omega, by simp [Hid], by simp [Hid], rfl⟩
  case round =>
    obtain ⟨j, acc, q, rfl, rfl, hj, hkj, HA, HD, rfl⟩ := hrel
    have hj10 : ((j : Int) == 10) = false := by simp; omega
    have b0 : (0 : Int) ≤ (k : Int) + j := by omega
    have b2 : ((k : Int) + j).toNat = k + j := by omega
    have b4 : IntKind.i64.wrap ((k : Int) + j) = k + j := IntWalk.i64_in _ (by omega)
    by_cases hlt : k + j < s.size
    · have b1 : (k : Int) + j < s.size := by omega
      have b3 : decide ((s.size : Int) ≤ k + j) = false := by simp; omega
      obtain ⟨c, hc⟩ : ∃ c : UInt8, s[k + j] = c := ⟨_, rfl⟩
      have hdrop : s.data.toList.drop (k + j) = c :: s.data.toList.drop (k + j + 1) := by
        rw [drop_cons (byte_at s hlt), hc]
      have Hdrop := Lib.hid hdrop; clear hdrop
      have hcl := c.toNat_lt
      go_wp2
      go_quiet (fail)
      go_wp2
      go_quiet (fail)
      by_cases h9 : j = 9 ∧ 1 < c.toNat
      · obtain ⟨h9e, h1c⟩ := h9
        have h9b : ((j : Int) == 9) = true := by simp; omega
        have H9e := Lib.hid h9e; clear h9e
        have h1c' : (1 : Int) < (c.toNat : Int) := by omega
        go_wp2
        go_ret3
        refine ⟨?_, _, rfl⟩
        have : numTells s k = (0, 0, ((4 : Nat) : Int)) := numTells_err (by
          rw [HD.out, Hdrop.out]
          simp only [Wire.dec]
          rw [if_pos ⟨H9e.out, h1c⟩])
        rw [this]; rfl
      · have h9c : j = 9 → c.toNat ≤ 1 := fun h => by rcases Nat.lt_or_ge 1 c.toNat with h' | h'; exact absurd ⟨h, h'⟩ h9; exact h'
        have hor := or_group acc c.toNat j hj hcl h9c HA.out
        obtain ⟨acc', hacc'⟩ : ∃ acc' : Nat, acc + c.toNat % 128 * 128 ^ j = acc' := ⟨_, rfl⟩
        rw [hacc'] at hor
        have Hacc' := Lib.hid hacc'; clear hacc'
        have hlow := and_low c.toNat hcl
        have htop := and_top c.toNat hcl
        have H9c := Lib.hid h9c; clear h9c
        have H9 := Lib.hid h9; clear h9
        obtain ⟨t9, h9b, h9d⟩ : ∃ t : Bool, ((j : Int) == 9) = t ∧ (t = true → c.toNat ≤ 1) :=
          ⟨_, rfl, fun h => by
            exact H9c.out (by have := of_decide_eq_true h; omega)⟩
        have h128j : 128 ≤ c.toNat → ¬ j = 9 := fun h1 h2 => by
          have h' : c.toNat ≤ 1 := H9c.out h2
          clear hlow htop
          omega
        have H128j := Lib.hid h128j; clear h128j
        by_cases h128 : 128 ≤ c.toNat
        · rw [if_pos h128] at htop
          have hj9 := H128j.out h128
          cases t9
          · clear h9d
            go_wp2
            case roundEnd =>
              refine ⟨⟨j + 1, acc', _, rfl, by go_num, by omega, by omega, ?_, ?_, rfl⟩, by simp [intOf]; omega⟩
              · show _ < _
                rw [← Hacc'.out]; exact acc_step HA.out
              · show _ = _
                rw [HD.out, Hdrop.out]
                simp only [Wire.dec]
                rw [if_neg H9.out, if_pos h128, Hacc'.out, Nat.add_assoc]
          · exact absurd (by have := of_decide_eq_true h9b; omega) hj9
        · rw [if_neg h128] at htop
          have hacc2 : acc' < 18446744073709551616 := by
            rw [← Hacc'.out, Nat.mod_eq_of_lt (by omega)]
            exact acc_last hj (by omega) H9c.out HA.out
          have Hacc2 := Lib.hid hacc2
          clear hacc2
          by_cases hz : c.toNat = 0 ∧ 0 < j
          · have hz0 : ((c.toNat : Int) == 0) = true := by simp; omega
            have hz1 : (0 : Int) < (j : Int) := by omega
            have Hz := Lib.hid hz; clear hz
            cases t9
            all_goals
              first
                | (have h9e := h9d rfl; clear h9d)
                | clear h9d
              go_wp2
              go_ret3
              refine ⟨?_, _, rfl⟩
              have : numTells s k = (0, 0, ((4 : Nat) : Int)) := numTells_err (by
                rw [HD.out, Hdrop.out]
                simp only [Wire.dec]
                rw [if_neg H9.out, if_neg h128, if_pos Hz.out])
              rw [this]; rfl
          · have Hz := Lib.hid hz
            have hzb : ((c.toNat : Int) == 0) = true → j ≤ 0 := fun h => by
              have := of_decide_eq_true h
              omega
            have hone := and_one acc' Hacc2.out
            have hx0 := xor_none (acc' / 2) (by have := Hacc2.out; omega)
            have hx1 := xor_all (acc' / 2) (by have := Hacc2.out; omega)
            have hfin : numTells s k = (Wire.unzz acc', k + (j + 1), 0) := numTells_ok (by
              rw [HD.out, Hdrop.out]
              simp only [Wire.dec]
              rw [if_neg H9.out, if_neg h128, if_neg Hz.out, ← Hacc'.out, Nat.mod_eq_of_lt (by omega)])
            have Hfin := Lib.hid hfin; clear hfin hz
            have e2 : IntKind.i64.wrap ((acc' : Int) / 2) = (acc' : Int) / 2 := IntWalk.i64_in _ (by have := Hacc2.out; omega)
            cases t9
            all_goals
              first
                | (have h9e := h9d rfl; clear h9d)
                | clear h9d
              obtain ⟨tz, hz0, hz1⟩ : ∃ t : Bool, ((c.toNat : Int) == 0) = t ∧ (t = true → j ≤ 0) := ⟨_, rfl, hzb⟩
              clear hzb
              cases tz
              all_goals
                first
                  | (have h0e := hz1 rfl; clear hz1)
                  | clear hz1
                by_cases hodd : acc' % 2 = 1
                · rw [hodd] at hone
                  go_wp2
                  go_quiet (fail)
                  go_wp2
                  go_ret3
                  rw [Hfin.out]
                  refine ⟨?_, _, World.drewN_drewN _ _ _⟩
                  have hu : bits .xor .i64 ((acc' : Int) / 2) (-1) = Wire.unzz acc' := by
                    have h1 : ((acc' / 2 : Nat) : Int) = (acc' : Int) / 2 := by omega
                    rw [← h1, hx1]; unfold Wire.unzz; rw [if_neg (by omega)]
                  rw [hu, show (k : Int) + j + 1 = ((k + (j + 1) : Nat) : Int) from by omega]
                  rfl
                · rw [show acc' % 2 = 0 from by omega] at hone
                  go_wp2
                  go_quiet (fail)
                  go_wp2
                  go_ret3
                  rw [Hfin.out]
                  refine ⟨?_, _, World.drewN_drewN _ _ _⟩
                  have hu : bits .xor .i64 ((acc' : Int) / 2) 0 = Wire.unzz acc' := by
                    have h1 : ((acc' / 2 : Nat) : Int) = (acc' : Int) / 2 := by omega
                    rw [← h1, hx0]; unfold Wire.unzz; rw [if_pos (by omega)]
                  rw [hu, show (k : Int) + j + 1 = ((k + (j + 1) : Nat) : Int) from by omega]
                  rfl
    · have b1 : decide ((s.size : Int) ≤ k + j) = true := by simp; omega
      have hnil : s.data.toList.drop (k + j) = [] := List.drop_of_length_le (by rw [len_data]; omega)
      have Hnil := Lib.hid hnil; clear hnil
      go_wp2
      go_quiet (fail)
      go_wp2
      go_ret3
      refine ⟨?_, _, World.drewN_drewN _ _ _⟩
      have : numTells s k = (0, 0, ((5 : Nat) : Int)) := numTells_err (by rw [HD.out, Hnil.out]; rfl)
      rw [this]; rfl
end Go.Proofs.YtfmbadinfhpihaaGreat.Wi
namespace Go.Proofs.YtfmbadinfhpihaaGreat.Wi
open Go.RowKit

theorem newReader_any (s : ByteArray) (w : World) (hs : s.size ≤ 1000000000) :
    Calls Tryz.prog 209 #[.string s] w fun r w' => ∃ g, r = .returned (.pointer (some ⟨g, 0, none⟩)) ∧ w.heap.size ≤ g ∧ RdAt g 0 s 0 w' ∧ Below w.heap.size w w' := by
  go_enter Tryz.func209, Tryz.ntmps209
  go_wp2_with (go_at_call 39; refine (clone_any s _ (by omega)).mono ?_; rintro e w1 ⟨rfl, hb1⟩)
  go_ret
  exact ⟨w1.heap.size, rfl, hb1.size, heap_alloc_new w1 _, hb1.alloc hb1.size _⟩

theorem off_any (g : Nat) (e : Int) (s : ByteArray) (k : Nat) (w : World) (h : RdAt g e s k w) :
    Calls Tryz.prog 229 #[.pointer (some ⟨g, 0, none⟩)] w fun r w' => r = .returned (.bool (e != 0)) ∧ w = w' := by
  have c0 := h.cell0
  go_enter Tryz.func229, Tryz.ntmps229
  go_wp2_with (go_at_call 216; refine (wrong_any g e _ c0).mono ?_; rintro e w1 ⟨rfl, rfl⟩)
  go_ret
  exact ⟨rfl, rfl⟩

/-- A reader's state behind Num, and what Num tells. -/
structure Rd where
  e : Int
  k : Nat
def rdNum (s : ByteArray) (r : Rd) : Int × Rd :=
  if r.e ≠ 0 then (0, r) else if (numTells s r.k).2.2 ≠ 0 then (0, ⟨(numTells s r.k).2.2, r.k⟩) else ((numTells s r.k).1, ⟨0, (numTells s r.k).2.1⟩)
theorem mv_set {g : Nat} {w : World} (i : Nat) (u : Value) : Mv [g] [g] w (w.setCell ⟨g, i, none⟩ u) := (Mv.refl _ _).set_ (by simp) i u

set_option maxHeartbeats 1000000 in
set_option maxRecDepth 100000 in
theorem rNum_any (g : Nat) (s : ByteArray) (r : Rd) (w : World) (h : RdAt g r.e s r.k w) (hk : r.k ≤ s.size) (hs : s.size ≤ 1000000000) :
    Calls Tryz.prog 210 #[.pointer (some ⟨g, 0, none⟩)] w fun x w' => x = .returned (.int .i64 (rdNum s r).1) ∧ RdAt g (rdNum s r).2.e s (rdNum s r).2.k w' ∧ Mv [g] [g] w w' := by
  have H := Lib.hid h; clear h
  by_cases he : r.e = 0
  · have He := Lib.hid he; clear he
    have H0 : Hid (RdAt g 0 s r.k w) := by rw [← He.out]; exact H
    obtain ⟨v, Hv⟩ : ∃ v, Hid ((numTells s r.k).1 = v) := ⟨_, rfl⟩
    obtain ⟨k', Hk'⟩ : ∃ k', Hid ((numTells s r.k).2.1 = k') := ⟨_, rfl⟩
    obtain ⟨x, Hx⟩ : ∃ x, Hid ((numTells s r.k).2.2 = x) := ⟨_, rfl⟩
    by_cases hx : x = 0
    · have hx' : (x != 0) = false := by simp [hx]
      have Hx0 := Lib.hid hx; clear hx
      have hres : rdNum s r = (v, ⟨0, k'⟩) := by
        unfold rdNum
        rw [if_neg (by simp [He.out]), if_neg (by rw [Hx.out]; simp [Hx0.out]), Hv.out, Hk'.out]
      have Hres := Lib.hid hres; clear hres
      go_enter Tryz.func210, Tryz.ntmps210
      go_wp2_with (go_at_call 229; refine (off_any g 0 s r.k _ H0.out).mono ?_; rintro e w1 ⟨rfl, rfl⟩)
      refine (rnum_any g s r.k _ hk hs H0.out.cell1 H0.out.cell2).mono ?_
      rw [Hv.out, Hk'.out, Hx.out]
      rintro e w1 ⟨rfl, q, rfl⟩
      have c2 : w.cell? ⟨g, 2, none⟩ = some (.int .i64 r.k) := H0.out.cell2
      have f2 : w.frozen? ⟨g, 2, none⟩ = false := H0.out.frozen 2
      go_wp2
      go_ret
      rw [Hres.out]
      exact ⟨rfl, (H0.out.set2 k').drewN q, (mv_set 2 _).drewN q⟩
    · have hx' : (x != 0) = true := by simp [hx]
      have Hx0 := Lib.hid hx; clear hx
      have hres : rdNum s r = (0, ⟨x, r.k⟩) := by
        unfold rdNum
        rw [if_neg (by simp [He.out]), if_pos (by rw [Hx.out]; exact Hx0.out), Hx.out]
      have Hres := Lib.hid hres; clear hres
      go_enter Tryz.func210, Tryz.ntmps210
      go_wp2_with (go_at_call 229; refine (off_any g 0 s r.k _ H0.out).mono ?_; rintro e w1 ⟨rfl, rfl⟩)
      refine (rnum_any g s r.k _ hk hs H0.out.cell1 H0.out.cell2).mono ?_
      rw [Hv.out, Hk'.out, Hx.out]
      rintro e w1 ⟨rfl, q, rfl⟩
      go_wp2_with (go_at_call 231; refine (fail_any g 0 x _ (H0.out.drewN q).cell0 ((H0.out.drewN q).frozen 0)).mono ?_; rw [if_pos rfl]; rintro e w1 ⟨rfl, rfl⟩)
      go_ret
      rw [Hres.out]
      exact ⟨rfl, (H0.out.set0 x).drewN q, (mv_set 0 _).drewN q⟩
  · have he' : (r.e != 0) = true := by simp [he]
    have hres : rdNum s r = (0, r) := by unfold rdNum; rw [if_pos he]
    have Hres := Lib.hid hres; clear hres he
    go_enter Tryz.func210, Tryz.ntmps210
    go_wp2_with (go_at_call 229; refine (off_any g r.e s r.k _ H.out).mono ?_; rintro e w1 ⟨rfl, rfl⟩)
    go_ret
    rw [Hres.out]
    exact ⟨rfl, H.out, Mv.refl _ _⟩

theorem rleft_any (g : Nat) (e : Int) (s : ByteArray) (k : Nat) (w : World) (h : RdAt g e s k w) (hk : k ≤ s.size) (hs : s.size ≤ 1000000000) :
    Calls Tryz.prog 232 #[.pointer (some ⟨g, 0, none⟩)] w fun r w' => r = .returned (.int .i64 (s.size - k : Nat)) ∧ ∃ q, w' = w.drewN q := by
  have c1 := h.cell1
  have c2 := h.cell2
  go_enter Tryz.func232, Tryz.ntmps232
  go_wp2
  go_quiet (fail)
  go_wp2
  go_ret
  exact ⟨ret_int (by omega), _, rfl⟩
/-- What End tells. -/
def endOf (s : ByteArray) (r : Rd) : Int := if r.e ≠ 0 then r.e else if r.k < s.size then 4 else 0
set_option maxHeartbeats 400000 in
theorem end_any (g : Nat) (s : ByteArray) (r : Rd) (w : World) (h : RdAt g r.e s r.k w) (hk : r.k ≤ s.size) (hs : s.size ≤ 1000000000) :
    Calls Tryz.prog 211 #[.pointer (some ⟨g, 0, none⟩)] w fun x w' => x = .returned (.int .i64 (endOf s r)) ∧ ∃ q, w' = w.drewN q := by
  have c0 := h.cell0
  by_cases he : r.e = 0
  · rw [he] at c0
    have H0 : Hid (RdAt g 0 s r.k w) := by rw [← he]; exact h
    have He := Lib.hid he; clear he h
    by_cases hlt : r.k < s.size
    · have hres : endOf s r = 4 := by unfold endOf; rw [if_neg (by simp [He.out]), if_pos hlt]
      have Hres := Lib.hid hres; clear hres
      go_enter Tryz.func211, Tryz.ntmps211
      go_wp2_with (first
        | (go_at_call 216; refine (wrong_any g 0 _ c0).mono ?_; rintro e w1 ⟨rfl, rfl⟩)
        | (go_at_call 232; refine (rleft_any g 0 s r.k _ H0.out hk hs).mono ?_; rintro e w1 ⟨rfl, q, rfl⟩))
      go_ret
      rw [Hres.out]
      exact ⟨rfl, q, rfl⟩
    · have hres : endOf s r = 0 := by unfold endOf; rw [if_neg (by simp [He.out]), if_neg hlt]
      have Hres := Lib.hid hres; clear hres
      go_enter Tryz.func211, Tryz.ntmps211
      go_wp2_with (first
        | (go_at_call 216; refine (wrong_any g 0 _ c0).mono ?_; rintro e w1 ⟨rfl, rfl⟩)
        | (go_at_call 232; refine (rleft_any g 0 s r.k _ H0.out hk hs).mono ?_; rintro e w1 ⟨rfl, q, rfl⟩))
      go_ret
      rw [Hres.out]
      exact ⟨rfl, q, rfl⟩
  · have he' : (r.e != 0) = true := by simp [he]
    have hres : endOf s r = r.e := by unfold endOf; rw [if_pos he]
    have Hres := Lib.hid hres; clear hres he
    go_enter Tryz.func211, Tryz.ntmps211
    go_wp2_with (go_at_call 216; refine (wrong_any g r.e _ c0).mono ?_; rintro e w1 ⟨rfl, rfl⟩)
    go_ret
    rw [Hres.out]
    exact ⟨rfl, 0, rfl⟩
def rdFail (r : Rd) (x : Int) : Rd := if r.e = 0 then ⟨x, r.k⟩ else r
theorem rfail_any (g : Nat) (s : ByteArray) (r : Rd) (x : Int) (w : World) (h : RdAt g r.e s r.k w) :
    Calls Tryz.prog 231 #[.pointer (some ⟨g, 0, none⟩), .int .i64 x] w fun v w' => v = .returned (.tuple #[]) ∧ RdAt g (rdFail r x).e s (rdFail r x).k w' ∧ Mv [g] [g] w w' := by
  refine (fail_any g r.e x w h.cell0 (h.frozen 0)).mono ?_
  rintro v w' ⟨rfl, rfl⟩
  unfold rdFail
  by_cases he : r.e = 0
  · rw [if_pos he, if_pos he]
    exact ⟨rfl, h.set0 x, mv_set 0 _⟩
  · rw [if_neg he, if_neg he]
    exact ⟨rfl, h, Mv.refl _ _⟩
end Go.Proofs.YtfmbadinfhpihaaGreat.Wi
namespace Go.Proofs.YtfmbadinfhpihaaGreat.Wi
open Go.RowKit

section
variable {g : Nat} {S T T' : List Nat} {w w' : World}
theorem Mv.out (h : Mv T T' w w') (hg : g ∉ T) (hlt : g < w.heap.size) : g ∉ T' := fun e => (h.link g e).elim hg (by omega)
theorem WrAt.aside {e : Int} {bs : List UInt8} (h : WrAt g S e bs w) (hm : Mv T T' w w') (hA : ∀ k, k ∈ S → k ∉ T) : WrAt g S e bs w' := h.keep (fun k hk => hm.block k (h.there k hk) (hA k hk))
theorem WrAt.alloc {e : Int} {bs : List UInt8} (h : WrAt g S e bs w) (o : Obj) : WrAt g S e bs (w.alloc o) := h.keep (fun k hk => Below.heap_alloc _ _ _ (h.there k hk))
theorem WrAt.below {e : Int} {bs : List UInt8} (h : WrAt g S e bs w) (hb : Below w.heap.size w w') : WrAt g S e bs w' := h.keep (fun k hk => hb.block k (h.there k hk))
theorem RdAt.aside {e : Int} {s : ByteArray} {k : Nat} (h : RdAt g e s k w) (hm : Mv T T' w w') (hg : g ∉ T) : RdAt g e s k w' := (hm.block g h.lt hg).trans h
theorem RdAt.alloc {e : Int} {s : ByteArray} {k : Nat} (h : RdAt g e s k w) (o : Obj) : RdAt g e s k (w.alloc o) := (Below.heap_alloc _ _ _ h.lt).trans h
theorem RdAt.below {e : Int} {s : ByteArray} {k : Nat} (h : RdAt g e s k w) (hb : Below w.heap.size w w') : RdAt g e s k w' := (hb.block g h.lt).trans h
theorem not_mem_one {k : Nat} (h : g ∉ S) (hk : k ∈ S) : k ∉ [g] := by intro e; simp at e; subst e; exact h hk
end
/-- A row of arguments in a new block, apart from a writer's. -/
theorem apart_new {g b : Nat} {S : List Nat} {e : Int} {bs : List UInt8} {w : World} (h : WrAt g S e bs w) (hb : b = w.heap.size) (o : Obj) : ∀ ad, some (⟨b, 0, none⟩ : Addr) = some ad → ad.block ∉ S ∧ ad.block < (w.alloc o).heap.size := by
  intro ad h'
  injection h' with h'
  subst h' hb
  exact ⟨fun e => Nat.lt_irrefl _ (h.there _ e), by simp⟩
/-- Num of one number, Text of one text. -/
theorem num1_any (g : Nat) (S : List Nat) (st : Wire.St) (v : Int) (h1 : -9223372036854775808 ≤ v) (h2 : v ≤ 9223372036854775807) (b c : Nat) (w : World) (hb : b = w.heap.size) (h : WrAt g S st.1 st.2 w) (hN : st.2.length + 10 ≤ 1000000000) :
    Calls Tryz.prog 157 #[.pointer (some ⟨g, 0, none⟩), .slice (some ⟨b, 0, none⟩) 1 c] (w.alloc (.cells #[.int .i64 v] 3)) fun r w' => r = .returned (.tuple #[]) ∧ ∃ S', WrAt g S' (Wire.stNum st v).1 (Wire.stNum st v).2 w' ∧ Mv S S' w w' := by
  refine (nums_any g S st [v] (some ⟨b, 0, none⟩) c (w.heap.size + 1) _ (h.alloc _) (reads_newV w (ints [v]) 3 _ rfl rfl hb (Nat.lt_succ_self _)) (fun ad h' _ => apart_new h hb _ ad h') (by simpa using hN) (by intro x hx; simp at hx; subst hx; exact ⟨h1, h2⟩)).mono ?_
  rintro e w' ⟨rfl, S', hw, hm⟩
  exact ⟨rfl, S', hw, ((Mv.refl _ _).alloc _).trans hm⟩
end Go.Proofs.YtfmbadinfhpihaaGreat.Wi
