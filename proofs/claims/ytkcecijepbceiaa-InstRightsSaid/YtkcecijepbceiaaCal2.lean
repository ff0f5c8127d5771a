/-
  Package cal as contracts: a new calendar, Is.
  Conditions: ints.
-/
import Derived.Test.YtkcecijepbceiaaCal1
import Derived.Test.YtkcecijepbceiaaWords2
namespace Go.Proofs.Ytkcecijepbceiaa
open Go.RowKit Go.Maps

theorem keyLaw : Keyed Try.prog 3 := int_keyed Try.underlying3
theorem zeroU (w : World) : (zeroValue 124).run Try.prog w = .ok (.agg #[]) w := by kernel_rfl
/-- The set of these days. -/
def setD (l : List Int) : DataW Unit := setOf (.agg []) (l.map (fun d => Lit.int .i64 d))
def hasD (D : DataW Unit) (d : Int) : Bool := Maps.has D (.int .i64 d)
theorem key_int {d : Int} (h1 : -9223372036854775808 ≤ d) (h2 : d ≤ 9223372036854775807) : keyOf Try.prog 3 (.int .i64 d) = some (.int .i64 d) := keyOf_int_mk Try.underlying3 (WalkArith.wf_i64 (by omega))

/-- A calendar in block c; its map's block is among those from B on. -/
def CalAt (c : Nat) (D : DataW Unit) (w : World) : Prop :=
  ∃ b n, w.heap[c]? = some (.cells #[.map (some b)] 126 (0, 0)) ∧ w.ownsMap Try.prog 3 (unitElem (H := Unit)) b n D
section
variable {c : Nat} {D : DataW Unit} {w w' : World}
theorem CalAt.lt (h : CalAt c D w) : c < w.heap.size := by obtain ⟨b, n, h1, _⟩ := h; exact Blk.lt h1
theorem CalAt.below (h : CalAt c D w) (hb : Below w.heap.size w w') : CalAt c D w' := by
  have h0 := h.lt
  obtain ⟨b, n, h1, h2⟩ := h
  refine ⟨b, n, (hb.block c h0).trans h1, ?_⟩
  obtain ⟨es, clock, h3, h4⟩ := h2
  exact ⟨es, clock, (hb.block b (Array.getElem?_eq_some_iff.1 h3).1).trans h3, h4⟩
end

/-- Is there business? -/
def isB (D : DataW Unit) (d : Int) : Bool := decide (0 ≤ d ∧ d ≤ 1000000 ∧ d % 7 < 5) && !hasD D d
theorem isB_out {D : DataW Unit} {d : Int} (h : ¬ (0 ≤ d ∧ d ≤ 1000000 ∧ d % 7 < 5)) : isB D d = false := by unfold isB; rw [decide_eq_false h]; rfl
theorem isB_in {D : DataW Unit} {d : Int} (h : 0 ≤ d ∧ d ≤ 1000000 ∧ d % 7 < 5) : isB D d = !hasD D d := by unfold isB; rw [decide_eq_true h]; rfl

set_option maxHeartbeats 1000000 in
theorem is_any (c : Nat) (D : DataW Unit) (d : Int) (hd1 : -9223372036854775808 ≤ d) (hd2 : d ≤ 9223372036854775807) (w : World) (h : CalAt c D w) :
    Calls Try.prog 69 #[.pointer (some ⟨c, 0, none⟩), .int .i64 d] w fun e w' => e = .returned (.bool (isB D d)) ∧ Below w.heap.size w w' := by
  have hz := fun (w : World) => zeroU w
  by_cases hday : 0 ≤ d ∧ d ≤ 1000000
  · have hi := isDay_any d w
    rw [isDayB_yes.2 hday] at hi
    have HI := Lib.hid hi; clear hi
    obtain ⟨h0, h1⟩ := hday
    by_cases h7 : d % 7 < 5
    · obtain ⟨x, hx⟩ : ∃ x, hasD D d = x := ⟨_, rfl⟩
      rw [isB_in ⟨h0, h1, h7⟩, hx]
      have HX := Lib.hid hx; clear hx
      obtain ⟨b, n, hb, hown⟩ := h
      have c0 : w.cell? ⟨c, 0, none⟩ = some (.map (some b)) := by rw [Lib.cell_of_heap hb]; rfl
      have HB := Lib.hid hb; clear hb
      go_enter Try.func69, Try.ntmps69
      go_wp2_with (first
        | (go_at_call 63; refine HI.out.mono ?_; rintro e w' ⟨rfl, rfl⟩)
        | (at_lookup; refine wpList_lookup_own_unit _ rfl _ _ 122 rfl 3 124 keyLaw Try.underlying122 (zeroU _) b n D rfl hown _ _ rfl (key_int hd1 hd2) ?_))
      go_ret
      exact ⟨ret_bool (by rw [← HX.out]; rfl), (Below.refl _ _).alloc (Nat.le_refl _) _⟩
    · rw [isB_out (by omega)]
      go_enter Try.func69, Try.ntmps69
      go_wp2_with (go_at_call 63; refine HI.out.mono ?_; rintro e w' ⟨rfl, rfl⟩)
      go_ret
      exact ⟨rfl, Below.refl _ _⟩
  · rw [isB_out (by omega)]
    have hi := isDay_any d w
    rw [isDayB_no.2 hday] at hi
    have HI := Lib.hid hi; clear hi hday
    go_enter Try.func69, Try.ntmps69
    go_wp2_with (go_at_call 63; refine HI.out.mono ?_; rintro e w' ⟨rfl, rfl⟩)
    go_ret
    exact ⟨rfl, Below.refl _ _⟩
theorem is_nil (d : Int) (w : World) :
    Calls Try.prog 69 #[.pointer none, .int .i64 d] w fun e w' => e = .returned (.bool false) ∧ w = w' := by
  go_enter Try.func69, Try.ntmps69
  go_wp2
  go_ret
  exact ⟨rfl, rfl⟩
end Go.Proofs.Ytkcecijepbceiaa
