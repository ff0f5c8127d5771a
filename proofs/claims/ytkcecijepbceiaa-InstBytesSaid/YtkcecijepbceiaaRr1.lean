/-
  The reference's reader as contracts: Fail, Num, Text, Bool, with every error.
  Conditions: readers that the call has made, of at most 10^9 bytes.
-/
import Derived.Test.YtkcecijepbceiaaRrNum
import Derived.Test.YtkcecijepbceiaaRdAll
namespace Go.Proofs.Ytkcecijepbceiaa
open Go.RowKit

/-- The reference's reader in block g: its bytes, its error. -/
def RrAt (g : Nat) (e : Int) (s : ByteArray) (w : World) : Prop := w.heap[g]? = some (.cells #[.string s, .int .i64 e] 52 (0, 0))
section
variable {g : Nat} {e : Int} {s : ByteArray} {w w' : World}
theorem RrAt.lt (h : RrAt g e s w) : g < w.heap.size := Blk.lt (t := 52) h
theorem RrAt.cell0 (h : RrAt g e s w) : w.cell? ⟨g, 0, none⟩ = some (.string s) := by rw [Lib.cell_of_heap h]; rfl
theorem RrAt.cell1 (h : RrAt g e s w) : w.cell? ⟨g, 1, none⟩ = some (.int .i64 e) := by rw [Lib.cell_of_heap h]; rfl
theorem RrAt.frozen (h : RrAt g e s w) (i : Nat) : w.frozen? ⟨g, i, none⟩ = false := Lib.frozen_of_heap h i
theorem RrAt.drewN (h : RrAt g e s w) (n : Nat) : RrAt g e s (w.drewN n) := h
theorem RrAt.set0 (h : RrAt g e s w) (x : ByteArray) : RrAt g e x (w.setCell ⟨g, 0, none⟩ (.string x)) := by
  unfold RrAt at h ⊢
  simp [World.setCell, Array.getElem?_modify, h]
theorem RrAt.set1 (h : RrAt g e s w) (x : Int) : RrAt g x s (w.setCell ⟨g, 1, none⟩ (.int .i64 x)) := by
  unfold RrAt at h ⊢
  simp [World.setCell, Array.getElem?_modify, h]
theorem RrAt.keep (h : RrAt g e s w) (e' : w'.heap[g]? = w.heap[g]?) : RrAt g e s w' := e'.trans h
end
/-- A reader's state: its error and its bytes; behind Num, Text, Bool. -/
def rrTextErr (s : ByteArray) : Int :=
  if (numTells s 0).2.2 ≠ 0 then (numTells s 0).2.2 else if 1000 < (numTells s 0).1 then 2 else if (numTells s 0).1 < 0 then 4 else if (s.size : Int) - (numTells s 0).2.1 < (numTells s 0).1 then 5 else 0
theorem rrfail_any (g : Nat) (s : ByteArray) (x : Int) (w : World) (h : RrAt g 0 s w) :
    Calls Try.prog 84 #[.pointer (some ⟨g, 0, none⟩), .int .i64 x] w fun r w' => r = .returned (.tuple #[]) ∧ RrAt g x s w' ∧ Mv [g] [g] w w' := by
  have c1 := h.cell1
  have f1 := h.frozen 1
  have HO := Lib.hid (h.set1 x)
  clear h
  go_enter Try.func84, Try.ntmps84
  go_wp2
  go_end0
  exact ⟨rfl, HO.out, mv_set 1 _⟩
set_option maxHeartbeats 1000000 in
set_option maxRecDepth 10000 in
theorem rrNum_bad (g : Nat) (s : ByteArray) (x : Int) (w : World) (h : RrAt g 0 s w) (hs : s.size ≤ 1000000000) (hx0 : x ≠ 0) (hx : (numTells s 0).2.2 = x) :
    Calls Try.prog 48 #[.pointer (some ⟨g, 0, none⟩)] w fun r w' => r = .returned (.int .i64 0) ∧ RrAt g x s w' ∧ Mv [g] [g] w w' := by
  have c0 := h.cell0
  have c1 := h.cell1
  have HR := rrnum_any s w hs
  obtain ⟨v, hv⟩ : ∃ v, (numTells s 0).1 = v := ⟨_, rfl⟩
  obtain ⟨k', hk'⟩ : ∃ k', (numTells s 0).2.1 = k' := ⟨_, rfl⟩
  rw [hv, hk', hx] at HR
  have HRN := Lib.hid HR
  have H := Lib.hid h
  have hx' : (x != 0) = true := by simp [hx0]
  clear HR hv hk' hx h hx0
  go_enter Try.func48, Try.ntmps48
  go_wp2_with fail
  refine HRN.out.mono ?_
  rintro e w1 ⟨rfl, rfl⟩
  go_wp2_with fail
  refine (rrfail_any g s x _ H.out).mono ?_
  rintro e w2 ⟨rfl, hr2, hm2⟩
  go_wp2
  go_ret
  exact ⟨rfl, hr2, hm2⟩
set_option maxHeartbeats 1000000 in
set_option maxRecDepth 10000 in
theorem rrNum_ok (g : Nat) (s : ByteArray) (w : World) (h : RrAt g 0 s w) (hs : s.size ≤ 1000000000) (hx : (numTells s 0).2.2 = 0) :
    Calls Try.prog 48 #[.pointer (some ⟨g, 0, none⟩)] w fun r w' => r = .returned (.int .i64 (numTells s 0).1) ∧ RrAt g 0 (s.extract (numTells s 0).2.1 s.size) w' ∧ Mv [g] [g] w w' := by
  have c0 := h.cell0
  have c1 := h.cell1
  have f0 := h.frozen 0
  have HR := rrnum_any s w hs
  have hle := numTells_le (Nat.zero_le s.size) hx
  obtain ⟨v, hv⟩ : ∃ v, (numTells s 0).1 = v := ⟨_, rfl⟩
  obtain ⟨k', hk'⟩ : ∃ k', (numTells s 0).2.1 = k' := ⟨_, rfl⟩
  rw [hv, hk', hx] at HR
  rw [hk'] at hle
  rw [hv, hk']
  have HRN := Lib.hid HR
  have H := Lib.hid h
  have i1 : (k' : Int) ≤ s.size := by omega
  have i2 : (0 : Int) ≤ (k' : Int) := by omega
  clear HR hv hk' hx h
  go_enter Try.func48, Try.ntmps48
  go_wp2_with fail
  refine HRN.out.mono ?_
  rintro e w1 ⟨rfl, rfl⟩
  go_wp2
  go_ret
  exact ⟨rfl, H.out.set0 _, mv_set 0 _⟩
theorem rrNum_off (g : Nat) (s : ByteArray) (x : Int) (w : World) (h : RrAt g x s w) (hx0 : x ≠ 0) :
    Calls Try.prog 48 #[.pointer (some ⟨g, 0, none⟩)] w fun r w' => r = .returned (.int .i64 0) ∧ RrAt g x s w' ∧ Mv [g] [g] w w' := by
  have c1 := h.cell1
  have H := Lib.hid h
  have hx' : (x != 0) = true := by simp [hx0]
  clear h hx0
  go_enter Try.func48, Try.ntmps48
  go_wp2
  go_ret
  exact ⟨rfl, H.out, Mv.refl _ _⟩
theorem rrText_off (g : Nat) (s : ByteArray) (x : Int) (w : World) (h : RrAt g x s w) (hx0 : x ≠ 0) :
    Calls Try.prog 51 #[.pointer (some ⟨g, 0, none⟩)] w fun r w' => r = .returned (.string ⟨#[]⟩) ∧ RrAt g x s w' ∧ Mv [g] [g] w w' := by
  have c1 := h.cell1
  have H := Lib.hid h
  have hx' : (x != 0) = true := by simp [hx0]
  clear h hx0
  go_enter Try.func51, Try.ntmps51
  go_wp2
  go_ret
  exact ⟨rfl, H.out, Mv.refl _ _⟩
theorem rrBool_off (g : Nat) (s : ByteArray) (x : Int) (w : World) (h : RrAt g x s w) (hx0 : x ≠ 0) :
    Calls Try.prog 49 #[.pointer (some ⟨g, 0, none⟩)] w fun r w' => r = .returned (.bool false) ∧ RrAt g x s w' ∧ Mv [g] [g] w w' := by
  have c1 := h.cell1
  have H := Lib.hid h
  have hx' : (x != 0) = true := by simp [hx0]
  clear h hx0
  go_enter Try.func49, Try.ntmps49
  go_wp2
  go_ret
  exact ⟨rfl, H.out, Mv.refl _ _⟩
set_option maxHeartbeats 2000000 in
set_option maxRecDepth 10000 in
theorem rrText_bad (g : Nat) (s : ByteArray) (w : World) (h : RrAt g 0 s w) (hs : s.size ≤ 1000000000) (hok : rrTextErr s ≠ 0) :
    Calls Try.prog 51 #[.pointer (some ⟨g, 0, none⟩)] w fun r w' => r = .returned (.string ⟨#[]⟩) ∧ RrAt g (rrTextErr s) s w' ∧ Mv [g] [g] w w' := by
  have H := Lib.hid h
  have hr := rrnum_any s w hs
  obtain ⟨v, hv⟩ : ∃ v, (numTells s 0).1 = v := ⟨_, rfl⟩
  obtain ⟨k', hk'⟩ : ∃ k', (numTells s 0).2.1 = k' := ⟨_, rfl⟩
  obtain ⟨x, hx⟩ : ∃ x, (numTells s 0).2.2 = x := ⟨_, rfl⟩
  have hle : x = 0 → k' ≤ s.size := by rw [← hx, ← hk']; exact numTells_le (Nat.zero_le _)
  obtain ⟨E, hE⟩ : ∃ E, rrTextErr s = E := ⟨_, rfl⟩
  have hE2 : E = if x ≠ 0 then x else if 1000 < v then 2 else if v < 0 then 4 else if (s.size : Int) - k' < v then 5 else 0 := by rw [← hE, ← hx, ← hv, ← hk']; rfl
  rw [hv, hk', hx] at hr
  rw [hE] at hok ⊢
  have c0 := h.cell0
  have c1 := h.cell1
  have HRN := Lib.hid hr
  have HOK := Lib.hid hok
  have HE2 := Lib.hid hE2
  clear h hr hv hk' hx hE hok hE2
  by_cases hx0 : x = 0
  · have hle2 := hle hx0
    subst hx0
    clear hle
    have he1 : E = if 1000 < v then 2 else if v < 0 then 4 else if (s.size : Int) - k' < v then 5 else 0 := by rw [HE2.out, if_neg (by simp)]
    by_cases h1 : 1000 < v
    · rw [if_pos h1] at he1
      subst he1
      go_enter Try.func51, Try.ntmps51
      go_wp2_with fail
      refine HRN.out.mono ?_
      rintro e w1 ⟨rfl, rfl⟩
      go_wp2_with fail
      refine (rrfail_any g s 2 _ H.out).mono ?_
      rintro e w2 ⟨rfl, hr2, hm2⟩
      go_wp2
      go_ret
      exact ⟨rfl, hr2, hm2⟩
    · rw [if_neg h1] at he1
      by_cases h2 : v < 0
      · rw [if_pos h2] at he1
        subst he1
        go_enter Try.func51, Try.ntmps51
        go_wp2_with fail
        refine HRN.out.mono ?_
        rintro e w1 ⟨rfl, rfl⟩
        go_wp2_with fail
        refine (rrfail_any g s 4 _ H.out).mono ?_
        rintro e w2 ⟨rfl, hr2, hm2⟩
        go_wp2
        go_ret
        exact ⟨rfl, hr2, hm2⟩
      · rw [if_neg h2] at he1
        by_cases h3 : (s.size : Int) - k' < v
        · rw [if_pos h3] at he1
          subst he1
          have i1 : (0 : Int) ≤ (s.size : Int) - k' := by omega
          go_enter Try.func51, Try.ntmps51
          go_wp2_with fail
          refine HRN.out.mono ?_
          rintro e w1 ⟨rfl, rfl⟩
          go_wp2_with fail
          refine (rrfail_any g s 5 _ H.out).mono ?_
          rintro e w2 ⟨rfl, hr2, hm2⟩
          go_wp2
          go_ret
          exact ⟨rfl, hr2, hm2⟩
        · rw [if_neg h3] at he1
          exact absurd he1 HOK.out
  · have he1 : E = x := by rw [HE2.out, if_pos hx0]
    subst he1
    have hx' : (E != 0) = true := by simp [hx0]
    clear hle
    go_enter Try.func51, Try.ntmps51
    go_wp2_with fail
    refine HRN.out.mono ?_
    rintro e w1 ⟨rfl, rfl⟩
    go_wp2_with fail
    refine (rrfail_any g s E _ H.out).mono ?_
    rintro e w2 ⟨rfl, hr2, hm2⟩
    go_wp2
    go_ret
    exact ⟨rfl, hr2, hm2⟩
set_option maxHeartbeats 2000000 in
set_option maxRecDepth 10000 in
theorem rrText_ok (g : Nat) (s : ByteArray) (k' n : Nat) (w : World) (h : RrAt g 0 s w) (hs : s.size ≤ 1000000000) (ht : numTells s 0 = ((n : Int), k', 0)) (hn : n ≤ 1000) (hk' : k' + n ≤ s.size) :
    Calls Try.prog 51 #[.pointer (some ⟨g, 0, none⟩)] w fun x w' => x = .returned (.string (s.extract k' (k' + n))) ∧ RrAt g 0 (s.extract (k' + n) s.size) w' ∧ Mv [g] [g] w w' := by
  have H := Lib.hid h
  have hr := rrnum_any s w hs
  rw [ht] at hr
  have HR := Lib.hid hr
  have c0 := h.cell0
  have c1 := h.cell1
  have f0 := h.frozen 0
  have i1 : (n : Int) ≤ (s.size : Int) - (k' : Int) := by omega
  have i2 : (k' : Int) + n ≤ (s.size : Int) := by omega
  have i3 : (k' : Int) ≤ (k' : Int) + n := by omega
  have i4 : (0 : Int) ≤ (k' : Int) := by omega
  clear h hr ht
  go_enter Try.func51, Try.ntmps51
  go_wp2_with fail
  refine HR.out.mono ?_
  rintro e w1 ⟨rfl, rfl⟩
  go_wp2
  go_ret
  exact ⟨rfl, H.out.set0 _, mv_set 0 _⟩
set_option maxHeartbeats 2000000 in
set_option maxRecDepth 10000 in
theorem rrBool_short (g : Nat) (s : ByteArray) (w : World) (h : RrAt g 0 s w) (hs : s.size = 0) :
    Calls Try.prog 49 #[.pointer (some ⟨g, 0, none⟩)] w fun r w' => r = .returned (.bool false) ∧ RrAt g 5 s w' ∧ Mv [g] [g] w w' := by
  have c0 := h.cell0
  have c1 := h.cell1
  have H := Lib.hid h
  have hq : ((s.size : Int) == 0) = true := by rw [hs]; rfl
  clear h hs
  go_enter Try.func49, Try.ntmps49
  go_wp2_with fail
  refine (rrfail_any g s 5 _ H.out).mono ?_
  rintro e w2 ⟨rfl, hr2, hm2⟩
  go_wp2
  go_ret
  exact ⟨rfl, hr2, hm2⟩
set_option maxHeartbeats 2000000 in
set_option maxRecDepth 10000 in
theorem rrBool_form (g : Nat) (s : ByteArray) (w : World) (h : RrAt g 0 s w) (hs : 0 < s.size) (hs2 : s.size ≤ 1000000000) (hb : 1 < (s[0] : UInt8).toNat) :
    Calls Try.prog 49 #[.pointer (some ⟨g, 0, none⟩)] w fun r w' => r = .returned (.bool false) ∧ RrAt g 4 s w' ∧ Mv [g] [g] w w' := by
  have c0 := h.cell0
  have c1 := h.cell1
  have H := Lib.hid h
  have hq : ((s.size : Int) == 0) = false := beq_false_of_ne (by omega)
  have i1 : (0 : Int) < (s.size : Int) := by omega
  have b1 : (1 : Int) < ((s[0] : UInt8).toNat : Int) := by omega
  clear h
  go_enter Try.func49, Try.ntmps49
  go_wp2_with fail
  refine (rrfail_any g s 4 _ H.out).mono ?_
  rintro e w2 ⟨rfl, hr2, hm2⟩
  go_wp2
  go_ret
  exact ⟨rfl, hr2, hm2⟩
set_option maxHeartbeats 2000000 in
set_option maxRecDepth 10000 in
theorem rrBool_ok (g : Nat) (s : ByteArray) (c : Bool) (w : World) (h : RrAt g 0 s w) (hs : 0 < s.size) (hs2 : s.size ≤ 1000000000) (hb : (s[0] : UInt8).toNat = if c then 1 else 0) :
    Calls Try.prog 49 #[.pointer (some ⟨g, 0, none⟩)] w fun r w' => r = .returned (.bool c) ∧ RrAt g 0 (s.extract 1 s.size) w' ∧ Mv [g] [g] w w' := by
  have c0 := h.cell0
  have c1 := h.cell1
  have f0 := h.frozen 0
  have H := Lib.hid h
  have hq : ((s.size : Int) == 0) = false := beq_false_of_ne (by omega)
  have i1 : (0 : Int) < (s.size : Int) := by omega
  have i2 : (1 : Int) ≤ (s.size : Int) := by omega
  have hv : (s[0] : UInt8) = if c then 1 else 0 := by
    cases c
    · exact UInt8.toNat.inj (by simpa using hb)
    · exact UInt8.toNat.inj (by simpa using hb)
  clear h hb
  cases c
  · rw [if_neg (show ¬ (false = true) by decide)] at hv
    go_enter Try.func49, Try.ntmps49
    go_wp2
    go_ret
    exact ⟨rfl, H.out.set0 _, mv_set 0 _⟩
  · rw [if_pos rfl] at hv
    go_enter Try.func49, Try.ntmps49
    go_wp2
    go_ret
    exact ⟨rfl, H.out.set0 _, mv_set 0 _⟩
end Go.Proofs.Ytkcecijepbceiaa
