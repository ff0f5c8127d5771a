/-
  A list out of what is at each place.
-/
import Derived.Test.YtiekolbkmgdfoaaWords
namespace Go.Proofs.Ytiekolbkmgdfoaa

theorem list_of {X : Type} {n : Nat} {Q : Nat → X → Prop} (hall : ∀ i, i < n → ∃ x, Q i x) : ∃ l : List X, l.length = n ∧ ∀ (i : Nat) (x : X), l[i]? = some x → Q i x := by
  induction n with
  | zero => exact ⟨[], rfl, fun i x hx => by simp at hx⟩
  | succ k ih =>
    obtain ⟨l, hl, hli⟩ := ih (fun i hi => hall i (by omega))
    obtain ⟨x, hx⟩ := hall k (by omega)
    refine ⟨l ++ [x], by simp [hl], fun i z hz => ?_⟩
    rcases Nat.lt_or_ge i l.length with h1 | h1
    · rw [List.getElem?_append_left h1] at hz
      exact hli i z hz
    · rw [List.getElem?_append_right h1] at hz
      have h2 : i - l.length = 0 := by
        rcases Nat.eq_zero_or_pos (i - l.length) with h2 | h2
        · exact h2
        · rw [List.getElem?_eq_none (by simp; omega)] at hz; cases hz
      rw [h2] at hz
      obtain rfl : x = z := by simpa using hz
      obtain rfl : i = k := by omega
      exact hx
end Go.Proofs.Ytiekolbkmgdfoaa
