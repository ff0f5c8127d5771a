/-
  Package wire as contracts: a reader's Text and Bool, where they can be read.
  Conditions: readers that the call has made.
-/
import Derived.Test.YtkcecijepbceiaaWire7B
import Derived.Deep.RegionHeld3
namespace Go.Proofs.Ytkcecijepbceiaa
open Go.RowKit

set_option maxHeartbeats 2000000 in
set_option maxRecDepth 10000 in
theorem rText_ok (g : Nat) (s : ByteArray) (k k' n : Nat) (w : World) (h : RdAt g 0 s k w) (hk : k ≤ s.size) (hs : s.size ≤ 1000000000) (ht : numTells s k = ((n : Int), k', 0)) (hn : n ≤ 1000) (hk' : k' + n ≤ s.size) :
    Calls Try.prog 50 #[.pointer (some ⟨g, 0, none⟩)] w fun x w' => x = .returned (.string (s.extract k' (k' + n))) ∧ RdAt g 0 s (k' + n) w' ∧ Mv [g] [g] w w' := by
  have H := Lib.hid h
  have hr := rnum_any g s k w hk hs h.cell1 h.cell2
  rw [ht] at hr
  have HR := Lib.hid hr
  have c1 := h.cell1
  have c2 := h.cell2
  have f2 := h.frozen 2
  clear h hr ht
  go_enter Try.func50, Try.ntmps50
  go_wp2_with fail
  refine (off_any g 0 s k _ H.out).mono ?_
  rintro e w1 ⟨rfl, rfl⟩
  go_wp2_with fail
  refine HR.out.mono ?_
  rintro e w1 ⟨rfl, q, rfl⟩
  have c1' : (w.drewN q).cell? ⟨g, 1, none⟩ = some (.string s) := c1
  have c2' : (w.drewN q).cell? ⟨g, 2, none⟩ = some (.int .i64 k) := c2
  have f2' : (w.drewN q).frozen? ⟨g, 2, none⟩ = false := f2
  have i1 : (n : Int) ≤ (s.size : Int) - (k' : Int) := by omega
  have i2 : (k' : Int) + n ≤ (s.size : Int) := by omega
  go_wp2
  have hset := (H.out.drewN q).set2 (k' + n)
  have hmv : Mv [g] [g] w ((w.drewN q).setCell ⟨g, 2, none⟩ (.int .i64 ((k' + n : Nat) : Int))) := ((Mv.refl [g] w).drewN q).trans (mv_set 2 _)
  rw [Int.natCast_add] at hset hmv
  obtain ⟨W2, HW2⟩ : ∃ W2, Hid ((w.drewN q).setCell ⟨g, 2, none⟩ (.int .i64 ((k' : Int) + (n : Int))) = W2) := ⟨_, rfl⟩
  rw [HW2.out] at hset hmv ⊢
  have d1 := hset.cell1
  have d2 := hset.cell2
  rw [Int.natCast_add] at d2
  have HS := Lib.hid hset
  have HM := Lib.hid hmv
  have i3 : (k' : Int) ≤ (k' : Int) + n := by omega
  have i4 : (0 : Int) ≤ (k' : Int) := by omega
  clear hset hmv HW2 c1 c2 f2 c1' c2' f2' H HR
  go_quiet (fail)
  go_wp2
  go_ret
  exact ⟨rfl, HS.out.drewN _, HM.out.drewN _⟩

set_option maxHeartbeats 2000000 in
set_option maxRecDepth 10000 in
theorem rBool_ok (g : Nat) (s : ByteArray) (k : Nat) (c : Bool) (w : World) (h : RdAt g 0 s k w) (hk : k < s.size) (hs : s.size ≤ 1000000000) (hb : (s[k] : UInt8).toNat = if c then 1 else 0) :
    Calls Try.prog 46 #[.pointer (some ⟨g, 0, none⟩)] w fun x w' => x = .returned (.bool c) ∧ RdAt g 0 s (k + 1) w' ∧ Mv [g] [g] w w' := by
  have H := Lib.hid h
  have c1 := h.cell1
  have c2 := h.cell2
  have f2 := h.frozen 2
  have c1d : w.drew.cell? ⟨g, 1, none⟩ = some (.string s) := c1
  have hne : ((k : Int) == (s.size : Int)) = false := beq_false_of_ne (by omega)
  have i1 : (k : Int) < (s.size : Int) := by omega
  have i2 : (0 : Int) ≤ (k : Int) := by omega
  clear h
  have kk : (k : Int) + 1 - 1 = k := by omega
  have hb' : (s[k] : UInt8).toNat = if c then 1 else 0 := hb
  have e8 : ((s[k] : UInt8) == 0) = !c := by
    cases c
    · exact beq_iff_eq.mpr (UInt8.toNat.inj (by simpa using hb))
    · exact beq_false_of_ne (fun q => by rw [q] at hb; simp at hb)
  have u0 : ((0 : UInt8) == 1) = false := rfl
  have u1 : ((1 : UInt8) == 1) = true := rfl
  have hv : (s[k] : UInt8) = if c then 1 else 0 := by
    cases c
    · exact UInt8.toNat.inj (by simpa using hb)
    · exact UInt8.toNat.inj (by simpa using hb)
  clear hb hb' e8
  cases c
  · rw [if_neg (show ¬ (false = true) by decide)] at hv
    go_enter Try.func46, Try.ntmps46
    go_wp2_with fail
    refine (off_any g 0 s k _ H.out).mono ?_
    rintro e w1 ⟨rfl, rfl⟩
    go_wp2
    go_quiet (fail)
    go_wp2
    go_quiet (fail)
    go_wp2
    rename_i n1 _ _
    have hset := (H.out.drewN (n1 + nq)).set2 (k + 1)
    have hmv : Mv [g] [g] w ((w.drewN (n1 + nq)).setCell ⟨g, 2, none⟩ (.int .i64 ((k + 1 : Nat) : Int))) := ((Mv.refl [g] w).drewN (n1 + nq)).trans (mv_set 2 _)
    rw [Int.natCast_add] at hset hmv
    obtain ⟨W2, HW2⟩ : ∃ W2, Hid ((w.drewN (n1 + nq)).setCell ⟨g, 2, none⟩ (.int .i64 ((k : Int) + ((1 : Nat) : Int))) = W2) := ⟨_, rfl⟩
    rw [HW2.out] at hset hmv
    have HW3 : (w.drewN (n1 + nq)).setCell ⟨g, 2, none⟩ (.int .i64 ((k : Int) + 1)) = W2 := HW2.out
    rw [HW3]
    have d1 := hset.cell1
    have d2 := hset.cell2
    rw [Int.natCast_add] at d2
    have d2' : W2.cell? ⟨g, 2, none⟩ = some (.int .i64 ((k : Int) + 1)) := d2
    have HS := Lib.hid hset
    have HM := Lib.hid hmv
    clear hset hmv HW2 HW3 c1 c2 f2 c1d H d2
    go_quiet (fail)
    go_wp2
    go_ret
    exact ⟨rfl, HS.out.drewN _, HM.out.drewN _⟩
  · rw [if_pos rfl] at hv
    go_enter Try.func46, Try.ntmps46
    go_wp2_with fail
    refine (off_any g 0 s k _ H.out).mono ?_
    rintro e w1 ⟨rfl, rfl⟩
    go_wp2
    go_quiet (fail)
    go_wp2
    go_quiet (fail)
    go_wp2
    rename_i n1 _ _
    have hset := (H.out.drewN (n1 + nq)).set2 (k + 1)
    have hmv : Mv [g] [g] w ((w.drewN (n1 + nq)).setCell ⟨g, 2, none⟩ (.int .i64 ((k + 1 : Nat) : Int))) := ((Mv.refl [g] w).drewN (n1 + nq)).trans (mv_set 2 _)
    rw [Int.natCast_add] at hset hmv
    obtain ⟨W2, HW2⟩ : ∃ W2, Hid ((w.drewN (n1 + nq)).setCell ⟨g, 2, none⟩ (.int .i64 ((k : Int) + ((1 : Nat) : Int))) = W2) := ⟨_, rfl⟩
    rw [HW2.out] at hset hmv
    have HW3 : (w.drewN (n1 + nq)).setCell ⟨g, 2, none⟩ (.int .i64 ((k : Int) + 1)) = W2 := HW2.out
    rw [HW3]
    have d1 := hset.cell1
    have d2 := hset.cell2
    rw [Int.natCast_add] at d2
    have d2' : W2.cell? ⟨g, 2, none⟩ = some (.int .i64 ((k : Int) + 1)) := d2
    have HS := Lib.hid hset
    have HM := Lib.hid hmv
    clear hset hmv HW2 HW3 c1 c2 f2 c1d H d2
    go_quiet (fail)
    go_wp2
    go_ret
    exact ⟨rfl, HS.out.drewN _, HM.out.drewN _⟩
end Go.Proofs.Ytkcecijepbceiaa
