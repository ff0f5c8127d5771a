/-
  Package wire's reader as contracts: NewReader, off, Num, Left, End, Fail.
  Conditions: a reader whose block is known, of at most 10^9 bytes, its place within them.
-/
import Derived.Test.YtjhinifmdjlblaaGreatWire4
namespace Go.Proofs.YtjhinifmdjlblaaGreat.Wi
open Go.RowKit

theorem newReader_any (s : ByteArray) (w : World) (hs : s.size ≤ 1000000000) :
    Calls Tryz.prog 114 #[.string s] w fun r w' => ∃ g, r = .returned (.pointer (some ⟨g, 0, none⟩)) ∧ w.heap.size ≤ g ∧ RdAt g 0 s 0 w' ∧ Below w.heap.size w w' := by
  go_enter Tryz.func114, Tryz.ntmps114
  go_wp2_with (go_at_call 23; refine (clone_any s _ (by omega)).mono ?_; rintro e w1 ⟨rfl, hb1⟩)
  go_ret
  exact ⟨w1.heap.size, rfl, hb1.size, heap_alloc_new w1 _, hb1.alloc hb1.size _⟩

theorem off_any (g : Nat) (e : Int) (s : ByteArray) (k : Nat) (w : World) (h : RdAt g e s k w) :
    Calls Tryz.prog 135 #[.pointer (some ⟨g, 0, none⟩)] w fun r w' => r = .returned (.bool (e != 0)) ∧ w = w' := by
  have c0 := h.cell0
  go_enter Tryz.func135, Tryz.ntmps135
  go_wp2_with (go_at_call 119; refine (wrong_any g e _ c0).mono ?_; rintro e w1 ⟨rfl, rfl⟩)
  go_ret
  exact ⟨rfl, rfl⟩

/-- A reader's state behind Num, and what Num tells. -/
structure Rd where
  e : Int
  k : Nat
def rdNum (s : ByteArray) (r : Rd) : Int × Rd :=
  if r.e ≠ 0 then (0, r) else if (numTells s r.k).2.2 ≠ 0 then (0, ⟨(numTells s r.k).2.2, r.k⟩) else ((numTells s r.k).1, ⟨0, (numTells s r.k).2.1⟩)
theorem mv_set {g : Nat} {w : World} (i : Nat) (u : Value) : Mv [g] [g] w (w.setCell ⟨g, i, none⟩ u) := (Mv.refl _ _).set_ (by simp) i u

set_option maxHeartbeats 1000000 in
set_option maxRecDepth 100000 in
theorem rNum_any (g : Nat) (s : ByteArray) (r : Rd) (w : World) (h : RdAt g r.e s r.k w) (hk : r.k ≤ s.size) (hs : s.size ≤ 1000000000) :
    Calls Tryz.prog 115 #[.pointer (some ⟨g, 0, none⟩)] w fun x w' => x = .returned (.int .i64 (rdNum s r).1) ∧ RdAt g (rdNum s r).2.e s (rdNum s r).2.k w' ∧ Mv [g] [g] w w' := by
  have H := Lib.hid h; clear h
  by_cases he : r.e = 0
  · have He := Lib.hid he; clear he
    have H0 : Hid (RdAt g 0 s r.k w) := by rw [← He.out]; exact H
    obtain ⟨v, Hv⟩ : ∃ v, Hid ((numTells s r.k).1 = v) := ⟨_, rfl⟩
    obtain ⟨k', Hk'⟩ : ∃ k', Hid ((numTells s r.k).2.1 = k') := ⟨_, rfl⟩
    obtain ⟨x, Hx⟩ : ∃ x, Hid ((numTells s r.k).2.2 = x) := ⟨_, rfl⟩
    by_cases hx : x = 0
    · have hx' : (x != 0) = false := by simp [hx]
      have Hx0 := Lib.hid hx; clear hx
      have hres : rdNum s r = (v, ⟨0, k'⟩) := by
        unfold rdNum
        rw [if_neg (by simp [He.out]), if_neg (by rw [Hx.out]; simp [Hx0.out]), Hv.out, Hk'.out]
      have Hres := Lib.hid hres; clear hres
      go_enter Tryz.func115, Tryz.ntmps115
      go_wp2_with (go_at_call 135; refine (off_any g 0 s r.k _ H0.out).mono ?_; rintro e w1 ⟨rfl, rfl⟩)
      refine (rnum_any g s r.k _ hk hs H0.out.cell1 H0.out.cell2).mono ?_
      rw [Hv.out, Hk'.out, Hx.out]
      rintro e w1 ⟨rfl, q, rfl⟩
      have c2 : w.cell? ⟨g, 2, none⟩ = some (.int .i64 r.k) := H0.out.cell2
      have f2 : w.frozen? ⟨g, 2, none⟩ = false := H0.out.frozen 2
      go_wp2
      go_ret
      rw [Hres.out]
      exact ⟨rfl, (H0.out.set2 k').drewN q, (mv_set 2 _).drewN q⟩
    · have hx' : (x != 0) = true := by simp [hx]
      have Hx0 := Lib.hid hx; clear hx
      have hres : rdNum s r = (0, ⟨x, r.k⟩) := by
        unfold rdNum
        rw [if_neg (by simp [He.out]), if_pos (by rw [Hx.out]; exact Hx0.out), Hx.out]
      have Hres := Lib.hid hres; clear hres
      go_enter Tryz.func115, Tryz.ntmps115
      go_wp2_with (go_at_call 135; refine (off_any g 0 s r.k _ H0.out).mono ?_; rintro e w1 ⟨rfl, rfl⟩)
      refine (rnum_any g s r.k _ hk hs H0.out.cell1 H0.out.cell2).mono ?_
      rw [Hv.out, Hk'.out, Hx.out]
      rintro e w1 ⟨rfl, q, rfl⟩
      go_wp2_with (go_at_call 137; refine (fail_any g 0 x _ (H0.out.drewN q).cell0 ((H0.out.drewN q).frozen 0)).mono ?_; rw [if_pos rfl]; rintro e w1 ⟨rfl, rfl⟩)
      go_ret
      rw [Hres.out]
      exact ⟨rfl, (H0.out.set0 x).drewN q, (mv_set 0 _).drewN q⟩
  · have he' : (r.e != 0) = true := by simp [he]
    have hres : rdNum s r = (0, r) := by unfold rdNum; rw [if_pos he]
    have Hres := Lib.hid hres; clear hres he
    go_enter Tryz.func115, Tryz.ntmps115
    go_wp2_with (go_at_call 135; refine (off_any g r.e s r.k _ H.out).mono ?_; rintro e w1 ⟨rfl, rfl⟩)
    go_ret
    rw [Hres.out]
    exact ⟨rfl, H.out, Mv.refl _ _⟩

theorem rleft_any (g : Nat) (e : Int) (s : ByteArray) (k : Nat) (w : World) (h : RdAt g e s k w) (hk : k ≤ s.size) (hs : s.size ≤ 1000000000) :
    Calls Tryz.prog 138 #[.pointer (some ⟨g, 0, none⟩)] w fun r w' => r = .returned (.int .i64 (s.size - k : Nat)) ∧ ∃ q, w' = w.drewN q := by
  have c1 := h.cell1
  have c2 := h.cell2
  go_enter Tryz.func138, Tryz.ntmps138
  go_wp2
  go_quiet (fail)
  go_wp2
  go_ret
  exact ⟨ret_int (by omega), _, rfl⟩
/-- What End tells. -/
def endOf (s : ByteArray) (r : Rd) : Int := if r.e ≠ 0 then r.e else if r.k < s.size then 4 else 0
set_option maxHeartbeats 400000 in
theorem end_any (g : Nat) (s : ByteArray) (r : Rd) (w : World) (h : RdAt g r.e s r.k w) (hk : r.k ≤ s.size) (hs : s.size ≤ 1000000000) :
    Calls Tryz.prog 116 #[.pointer (some ⟨g, 0, none⟩)] w fun x w' => x = .returned (.int .i64 (endOf s r)) ∧ ∃ q, w' = w.drewN q := by
  have c0 := h.cell0
  by_cases he : r.e = 0
  · rw [he] at c0
    have H0 : Hid (RdAt g 0 s r.k w) := by rw [← he]; exact h
    have He := Lib.hid he; clear he h
    by_cases hlt : r.k < s.size
    · have hres : endOf s r = 4 := by unfold endOf; rw [if_neg (by simp [He.out]), if_pos hlt]
      have Hres := Lib.hid hres; clear hres
      go_enter Tryz.func116, Tryz.ntmps116
      go_wp2_with (first
        | (go_at_call 119; refine (wrong_any g 0 _ c0).mono ?_; rintro e w1 ⟨rfl, rfl⟩)
        | (go_at_call 138; refine (rleft_any g 0 s r.k _ H0.out hk hs).mono ?_; rintro e w1 ⟨rfl, q, rfl⟩))
      go_ret
      rw [Hres.out]
      exact ⟨rfl, q, rfl⟩
    · have hres : endOf s r = 0 := by unfold endOf; rw [if_neg (by simp [He.out]), if_neg hlt]
      have Hres := Lib.hid hres; clear hres
      go_enter Tryz.func116, Tryz.ntmps116
      go_wp2_with (first
        | (go_at_call 119; refine (wrong_any g 0 _ c0).mono ?_; rintro e w1 ⟨rfl, rfl⟩)
        | (go_at_call 138; refine (rleft_any g 0 s r.k _ H0.out hk hs).mono ?_; rintro e w1 ⟨rfl, q, rfl⟩))
      go_ret
      rw [Hres.out]
      exact ⟨rfl, q, rfl⟩
  · have he' : (r.e != 0) = true := by simp [he]
    have hres : endOf s r = r.e := by unfold endOf; rw [if_pos he]
    have Hres := Lib.hid hres; clear hres he
    go_enter Tryz.func116, Tryz.ntmps116
    go_wp2_with (go_at_call 119; refine (wrong_any g r.e _ c0).mono ?_; rintro e w1 ⟨rfl, rfl⟩)
    go_ret
    rw [Hres.out]
    exact ⟨rfl, 0, rfl⟩
def rdFail (r : Rd) (x : Int) : Rd := if r.e = 0 then ⟨x, r.k⟩ else r
theorem rfail_any (g : Nat) (s : ByteArray) (r : Rd) (x : Int) (w : World) (h : RdAt g r.e s r.k w) :
    Calls Tryz.prog 137 #[.pointer (some ⟨g, 0, none⟩), .int .i64 x] w fun v w' => v = .returned (.tuple #[]) ∧ RdAt g (rdFail r x).e s (rdFail r x).k w' ∧ Mv [g] [g] w w' := by
  refine (fail_any g r.e x w h.cell0 (h.frozen 0)).mono ?_
  rintro v w' ⟨rfl, rfl⟩
  unfold rdFail
  by_cases he : r.e = 0
  · rw [if_pos he, if_pos he]
    exact ⟨rfl, h.set0 x, mv_set 0 _⟩
  · rw [if_neg he, if_neg he]
    exact ⟨rfl, h, Mv.refl _ _⟩
end Go.Proofs.YtjhinifmdjlblaaGreat.Wi
