/-
  The walk of CalWeeks: without holidays five of seven days are of business; a day that is closed is none, the others stay.
  Conditions: ints.
-/
import Derived.Test.YthnhdcfhlokalaaCal8
import Derived.Test.YthnhdcfhlokalaaCalGoesPlain
namespace Go.Proofs.Ythnhdcfhlokalaa
open Go.RowKit Go.Maps

namespace Dy
/-- One day less, to the number. -/
theorem cnt_but (B : Int → Bool) (a : Int) (f : Nat) : ∀ d : Int, cntF (fun x => B x && !(x == a)) f d = cntF B f d - (if B a = true ∧ d < a ∧ a ≤ d + f then 1 else 0) := by
  induction f with
  | zero =>
    intro d
    simp only [cntF]
    rw [if_neg (by omega)]
    rfl
  | succ f ih =>
    intro d
    have h := ih (d + 1)
    simp only [cntF]
    rw [h]
    by_cases ha : d + 1 = a
    · have e1 : (B (d + 1) && !(d + 1 == a)) = false := by simp [ha]
      simp only [e1, Bool.false_eq_true, if_false]
      rw [if_neg (show ¬ (B a = true ∧ d + 1 < a ∧ a ≤ d + 1 + (f : Int)) by omega)]
      rw [ha]
      by_cases hB : B a = true
      · rw [if_pos hB, if_pos (show B a = true ∧ d < a ∧ a ≤ d + ((f + 1 : Nat) : Int) from ⟨hB, by omega, by omega⟩)]
        omega
      · rw [if_neg hB, if_neg (fun h => hB h.1)]
        omega
    · have e1 : (B (d + 1) && !(d + 1 == a)) = B (d + 1) := by simp [ha]
      simp only [e1]
      have e2 : (B a = true ∧ d + 1 < a ∧ a ≤ d + 1 + (f : Int)) ↔ (B a = true ∧ d < a ∧ a ≤ d + ((f + 1 : Nat) : Int)) := by
        constructor
        · rintro ⟨h1, h2, h3⟩; exact ⟨h1, by omega, by omega⟩
        · rintro ⟨h1, h2, h3⟩; exact ⟨h1, by omega, by omega⟩
      by_cases hc : B a = true ∧ d < a ∧ a ≤ d + ((f + 1 : Nat) : Int)
      · rw [if_pos hc, if_pos (e2.2 hc)]; omega
      · rw [if_neg hc, if_neg (fun h => hc (e2.1 h))]; omega
end Dy

theorem hasD_put (D : DataW Unit) (hD : Maps.IsMap D) (d x : Int) : hasD (D.put (.int .i64 d) (.agg [])) x = (x == d || hasD D x) := by
  unfold hasD
  by_cases h : x = d
  · subst h
    rw [has_put_same hD (by simp [WideAt.IsKeyLit])]
    simp
  · rw [has_put_other (by intro e; injection e with _ e; exact h e)]
    simp [h]
theorem isMap_setD (l : List Int) : Maps.IsMap (setD l) := (tidy_setOf _ _ (by intro x hx; simp only [List.mem_map] at hx; obtain ⟨y, _, rfl⟩ := hx; simp [WideAt.IsKeyLit])).isMap
theorem isMap_addD (D : DataW Unit) (hD : Maps.IsMap D) (l : List Int) : Maps.IsMap (addD D l) := by
  induction l generalizing D with
  | nil => exact hD
  | cons d l ih => exact ih _ (hD.put _ _)
theorem hasD_addD (D : DataW Unit) (hD : Maps.IsMap D) (l : List Int) (x : Int) : hasD (addD D l) x = (l.contains x || hasD D x) := by
  induction l generalizing D with
  | nil => simp [addD]
  | cons d l ih =>
    have : addD D (d :: l) = addD (D.put (.int .i64 d) (.agg [])) l := rfl
    rw [this, ih _ (hD.put _ _), hasD_put D hD, List.contains_cons]
    cases (x == d) <;> cases (l.contains x) <;> simp
theorem one_day (d : Int) : addD (setD []) [d, d] = .map [(.int .i64 d, .agg [])] := by
  have h1 : (Lit.int .i64 d).sameKey (Lit.int .i64 d) = true := by simp [Lit.sameKey]
  show (((DataW.map [] : DataW Unit).put (.int .i64 d) (.agg [])).put (.int .i64 d) (.agg [])) = _
  simp [DataW.put, DataW.insert, h1]
theorem hol_one (d : Int) : hol (addD (setD []) [d, d]) = [d] := by
  rw [one_day]
  show List.mergeSort [d] _ = [d]
  exact List.mergeSort_singleton _
theorem size_one (d : Int) : Maps.size (addD (setD []) [d, d]) = 1 := by rw [one_day]; rfl
theorem isB_empty (x : Int) : isB (setD []) x = Dy.wk x := by unfold isB Dy.wk; rw [show hasD (setD []) x = false from rfl]; simp
theorem isB_one (d x : Int) : isB (addD (setD []) [d, d]) x = (Dy.wk x && !(x == d)) := by
  unfold isB Dy.wk
  rw [hasD_addD _ (isMap_setD _), show hasD (setD []) x = false from rfl]
  by_cases h : x = d
  · subst h; simp
  · simp [h]
theorem err_one {d : Int} (h0 : 0 ≤ d) (h1 : d ≤ 999990) : errMore (setD []) [d, d] = 0 := by
  unfold errMore
  rw [size_one, if_neg (by simp [isDayB_yes.2 (show 0 ≤ d ∧ d ≤ 1000000 by omega)]), if_neg (by omega)]
theorem err_none : errNew [] = 0 := by kernel_rfl
end Go.Proofs.Ythnhdcfhlokalaa
