/-
  Package ref as contracts: how several records are added to a map of records.
  Conditions: the caller's memory stays.
-/
import Derived.Test.YtkcecijepbceiaaRef1
import Derived.Test.YtkcecijepbceiaaShelf2
import Derived.Outline
namespace Go.Proofs.Ytkcecijepbceiaa
open Go.RowKit Go.Maps Go.Shelf

section
variable {α : Type} [Kd α] {valid : ByteArray → Bool} {most : Nat} {ahead behind : α → Int}
theorem out_bad {had D : DataW Unit} {l : List α} {k : Nat} {x : α} {e : Int} (hx : l[k]? = some x) (hk : goR valid most ahead behind had (l.take k) = (0, D)) (he : errR valid most ahead behind D x = e) (hne : e ≠ 0) :
    (goR valid most ahead behind had l).1 = e ∧ outR valid most ahead behind had l = had := by
  have h := goR_bad hx hk (by rw [he]; exact hne)
  rw [he] at h
  exact ⟨h, by unfold outR; rw [if_neg (by rw [h]; exact hne)]⟩
theorem out_ok {had D : DataW Unit} {l : List α} (hk : goR valid most ahead behind had l = (0, D)) : (goR valid most ahead behind had l).1 = 0 ∧ outR valid most ahead behind had l = D := by
  unfold outR
  rw [hk]
  exact ⟨rfl, if_pos rfl⟩
theorem er_valid {D : DataW Unit} {x : α} (h : valid (Kd.key x) = false) : errR valid most ahead behind D x = 9 := by unfold errR; rw [if_pos h]
theorem er_ahead {D : DataW Unit} {x : α} (h : valid (Kd.key x) = true) (h1 : ahead x ≠ 0) : errR valid most ahead behind D x = ahead x := by unfold errR; rw [if_neg (by rw [h]; decide), if_pos h1]
theorem er_has {D : DataW Unit} {x : α} (h : valid (Kd.key x) = true) (h1 : ahead x = 0) (h2 : hasS D (Kd.key x) = true) : errR valid most ahead behind D x = 8 := by unfold errR; rw [if_neg (by rw [h]; decide), if_neg (by rw [h1]; decide), if_pos h2]
theorem er_behind {D : DataW Unit} {x : α} (h : valid (Kd.key x) = true) (h1 : ahead x = 0) (h2 : hasS D (Kd.key x) = false) (h3 : behind x ≠ 0) : errR valid most ahead behind D x = behind x := by unfold errR; rw [if_neg (by rw [h]; decide), if_neg (by rw [h1]; decide), if_neg (by rw [h2]; decide), if_pos h3]
theorem er_most {D : DataW Unit} {x : α} (h : valid (Kd.key x) = true) (h1 : ahead x = 0) (h2 : hasS D (Kd.key x) = false) (h3 : behind x = 0) (h4 : most ≤ Maps.size D) : errR valid most ahead behind D x = 10 := by unfold errR; rw [if_neg (by rw [h]; decide), if_neg (by rw [h1]; decide), if_neg (by rw [h2]; decide), if_neg (by rw [h3]; decide), if_pos h4]
theorem er_none {D : DataW Unit} {x : α} (h : valid (Kd.key x) = true) (h1 : ahead x = 0) (h2 : hasS D (Kd.key x) = false) (h3 : behind x = 0) (h4 : ¬ most ≤ Maps.size D) : errR valid most ahead behind D x = 0 := by unfold errR; rw [if_neg (by rw [h]; decide), if_neg (by rw [h1]; decide), if_neg (by rw [h2]; decide), if_neg (by rw [h3]; decide), if_neg h4]
/-- Records in memory. -/
structure RowsAt (w : World) (B : Nat) (A : Option Addr) (n : Nat) (l : List α) : Prop where
  row : 0 < l.length → ∃ ad, A = some ad ∧ ad.block < B ∧ ∀ k x, l[k]? = some x → ∀ j v, (Kd.val x).cells[j]? = some v → w.cell? ((ad.add (k * n)).add j) = some v
theorem RowsAt.at_ {w : World} {B n : Nat} {A : Option Addr} {l : List α} (h : RowsAt w B A n l) {k : Nat} (hk : k < l.length) :
    ∃ ad x, A = some ad ∧ ad.block < B ∧ l[k]? = some x ∧ x ∈ l ∧ ∀ j v, (Kd.val x).cells[j]? = some v → w.cell? ((ad.add (k * n)).add j) = some v := by
  obtain ⟨ad, e, hB, hc⟩ := h.row (by omega)
  exact ⟨ad, l[k], e, hB, List.getElem?_eq_getElem hk, List.getElem_mem hk, hc k _ (List.getElem?_eq_getElem hk)⟩
end
theorem validS_short {s : ByteArray} (h : validS s = true) : s.size ≤ 12 := by
  unfold validS at h
  simp only [Bool.and_eq_true, decide_eq_true_eq] at h
  exact h.1.2
theorem cloneP_nil (w : World) : Calls Try.prog 118 #[.map none] w fun e w' => e = .returned (.map none) ∧ w = w' := by
  have q := fun (w : World) (r : Option Nat) => map_nilP w r
  go_enter Try.func118, Try.ntmps118
  go_wp2
  go_ret
  exact ⟨rfl, rfl⟩
theorem cloneC_nil (w : World) : Calls Try.prog 120 #[.map none] w fun e w' => e = .returned (.map none) ∧ w = w' := by
  have q := fun (w : World) (r : Option Nat) => map_nilC w r
  go_enter Try.func120, Try.ntmps120
  go_wp2
  go_ret
  exact ⟨rfl, rfl⟩
theorem cloneS_nil (w : World) : Calls Try.prog 121 #[.map none] w fun e w' => e = .returned (.map none) ∧ w = w' := by
  have q := fun (w : World) (r : Option Nat) => map_nilS w r
  go_enter Try.func121, Try.ntmps121
  go_wp2
  go_ret
  exact ⟨rfl, rfl⟩
end Go.Proofs.Ytkcecijepbceiaa
