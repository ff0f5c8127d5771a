/-
  The plain law of days of business: the next one, so many on, how many between.
  Conditions: each lemma's own premises. No program is in sight here.
-/
namespace Go.Proofs.Ythnhdcfhlokalaa
namespace Dy
variable (B : Int → Bool)

/-- The first day of business behind d, within f days; -1: none. -/
def nextF : Nat → Int → Int
  | 0, _ => -1
  | f + 1, d => if B (d + 1) then d + 1 else nextF f (d + 1)
/-- How many there are of the f days behind d. -/
def cntF : Nat → Int → Int
  | 0, _ => 0
  | f + 1, d => (if B (d + 1) then 1 else 0) + cntF f (d + 1)
def next (d : Int) : Int := nextF B (1000000 - max d (-1)).toNat (max d (-1))
def days (x y : Int) : Int := cntF B (min y 1000000 - max x (-1)).toNat (max x (-1))
def add : Nat → Int → Int
  | 0, d => d
  | n + 1, d => if next B d < 0 then next B d else add n (next B d)

theorem cntF_nonneg (f : Nat) (d : Int) : 0 ≤ cntF B f d ∧ cntF B f d ≤ f := by
  induction f generalizing d with
  | zero => simp [cntF]
  | succ f ih => have := ih (d + 1); unfold cntF; split <;> omega
theorem cntF_split (f g : Nat) (d : Int) : cntF B (f + g) d = cntF B f d + cntF B g (d + f) := by
  induction f generalizing d with
  | zero => simp [cntF]
  | succ f ih =>
    rw [show f + 1 + g = (f + g) + 1 from by omega]
    simp only [cntF]
    rw [ih (d + 1), show d + 1 + (f : Int) = d + ((f + 1 : Nat) : Int) from by omega]
    omega
theorem nextF_pos (f : Nat) (d : Int) (hd : -1 ≤ d) : nextF B f d = -1 ∧ cntF B f d = 0 ∨ (d < nextF B f d ∧ nextF B f d ≤ d + f ∧ B (nextF B f d) = true ∧ (∀ x, d < x → x < nextF B f d → B x = false) ∧ cntF B (nextF B f d - d).toNat d = 1) := by
  induction f generalizing d with
  | zero => left; simp [nextF, cntF]
  | succ f ih =>
    unfold nextF
    by_cases hb : B (d + 1) = true
    · right
      rw [if_pos hb]
      refine ⟨by omega, by omega, hb, fun x h1 h2 => by omega, ?_⟩
      rw [show (d + 1 - d).toNat = 0 + 1 from by omega]
      simp [cntF, hb]
    · rw [if_neg hb]
      rcases ih (d + 1) (by omega) with ⟨h1, h2⟩ | ⟨h1, h2, h3, h4, h5⟩
      · left
        refine ⟨h1, ?_⟩
        simp only [cntF]
        rw [if_neg hb, h2]; rfl
      · right
        refine ⟨by omega, by omega, h3, fun x hx1 hx2 => ?_, ?_⟩
        · by_cases hx : x = d + 1
          · subst hx; simpa using hb
          · exact h4 x (by omega) hx2
        · rw [show (nextF B f (d + 1) - d).toNat = (nextF B f (d + 1) - (d + 1)).toNat + 1 from by omega]
          simp only [cntF]
          rw [if_neg hb, h5]; rfl
theorem next_range (d : Int) : -1 ≤ next B d ∧ next B d ≤ 1000000 := by
  unfold next
  rcases nextF_pos B (1000000 - max d (-1)).toNat (max d (-1)) (by omega) with ⟨h, _⟩ | ⟨h1, h2, _⟩
  · omega
  · omega
theorem add_zero (d : Int) : add B 0 d = d := rfl
theorem add_no {n : Nat} {d : Int} (h : next B d < 0) : add B (n + 1) d = next B d := by simp [add, h]
theorem add_yes {n : Nat} {d : Int} (h : ¬ next B d < 0) : add B (n + 1) d = add B n (next B d) := by simp [add, h]
end Dy
end Go.Proofs.Ythnhdcfhlokalaa
