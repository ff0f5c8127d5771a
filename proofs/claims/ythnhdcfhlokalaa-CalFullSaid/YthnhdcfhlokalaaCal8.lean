/-
  Package cal as contracts: Holidays.
  Conditions: a calendar that the call has made, of at most 1000 holidays.
-/
import Derived.Test.YthnhdcfhlokalaaCal7
namespace Go.Proofs.Ythnhdcfhlokalaa
open Go.RowKit Go.Maps Go.Sort Go.Shelf

/-- A calendar's holidays, in their order. -/
def hol (D : DataW Unit) : List Int := (intKeys D).mergeSort (fun x y => decide (x ≤ y))
theorem hol_perm {D : DataW Unit} {ss : List Int} (h : ss.Perm (intKeys D)) : ss.mergeSort (fun x y => decide (x ≤ y)) = hol D := mergeSort_of_perm_i h
theorem hol_len (D : DataW Unit) : (hol D).length = (intKeys D).length := List.length_mergeSort _
/-- What Holidays hands back. -/
def HolOut (D : DataW Unit) (w : World) (e : Ending) (w' : World) : Prop :=
  ∃ (A : Option Addr) (cap : Nat), e = .returned (.slice A (hol D).length cap) ∧ Reads w' w'.heap.size 1 A (hol D).length (ints (hol D)) ∧ Below w.heap.size w w'
theorem reads_owned {w : World} {base n : Nat} {v : Value} {xs : List Value} (h : w.ownsRow base 3 1 v n xs) : ∃ A cap, v = .slice A n cap ∧ Reads w w.heap.size 1 A n xs := by
  have h0 := h
  rcases h0.2 with ⟨rfl, hx⟩ | ⟨g, cap, cur, rfl, _⟩
  · subst hx
    have hx1 : xs = [] := List.eq_nil_of_length_eq_zero (by have := h.1; omega)
    subst hx1
    exact ⟨none, 0, rfl, Reads.none_⟩
  · exact ⟨_, _, rfl, Reads.of_own h⟩

set_option maxHeartbeats 1000000 in
theorem holidays_any (c : Nat) (D : DataW Unit) (hD : Maps.size D ≤ 1000) (w : World) (h : CalAt c D w) :
    Calls Try.prog 13 #[.pointer (some ⟨c, 0, none⟩)] w fun e w' => HolOut D w e w' := by
  obtain ⟨b, n, hb, hown⟩ := h
  have c0 : w.cell? ⟨c, 0, none⟩ = some (.map (some b)) := by rw [Lib.cell_of_heap hb]; rfl
  have hk := keys_any (some b) w
  have hs := sorted_any b n D w hown hD
  have HK := Lib.hid hk; clear hk
  have HS := Lib.hid hs; clear hs hown hb
  go_enter Try.func13, Try.ntmps13
  go_wp2_with (first
    | (go_at_call 17; refine HK.out.mono ?_; rintro e w' ⟨rfl, rfl⟩)
    | (go_at_call 16; refine HS.out.mono ?_; rintro e w' ⟨v, ss, rfl, hp, hrow, _, hb⟩))
  go_ret
  have hl : ss.length = (hol D).length := by rw [hol_len]; exact hp.length_eq
  rw [hol_perm hp, hl] at hrow
  obtain ⟨A, cap, rfl, hr⟩ := reads_owned hrow
  exact ⟨A, cap, rfl, hr, ((Below.refl w.heap.size w).alloc (Nat.le_refl _) _).trans (hb.mono (by omega))⟩
end Go.Proofs.Ythnhdcfhlokalaa
