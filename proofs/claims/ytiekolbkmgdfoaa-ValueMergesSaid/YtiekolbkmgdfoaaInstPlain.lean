/-
  The plain law of shares and of what an instruction owes.
  Conditions: each lemma's own premises. No program is in sight here.
-/
namespace Go.Proofs.Ytiekolbkmgdfoaa
namespace Ow

/-- Amount times done by of: the error and the number. -/
def mdE (a b c : Int) : Int := if a < 0 ∨ b < 0 ∨ c < 1 then 1 else if 1152921504606846976 < a * b / c then 12 else 0
def mdV (a b c : Int) : Int := if mdE a b c = 0 then a * b / c else 0
def shE (a d q : Int) : Int := if d < 0 ∨ q < d then 1 else mdE a d q
def shV (a d q : Int) : Int := if shE a d q = 0 then a * d / q else 0
def left (q d : Int) : Int := if d < 0 ∨ q < d then 0 else q - d
def owE (q a d p n : Int) : Int := if n < 0 ∨ left q d < n ∨ p < 0 then 1 else if shE a (d + n) q ≠ 0 then shE a (d + n) q else if shV a (d + n) q < p then 1 else 0
def owV (q a d p n : Int) : Int := if owE q a d p n = 0 then shV a (d + n) q - p else 0

theorem part_le {a d q : Int} (ha : 0 ≤ a) (hq : 0 < q) (hdq : d ≤ q) : a * d / q ≤ a := by
  have h : a * d ≤ a * q := Int.mul_le_mul_of_nonneg_left hdq ha
  have h2 := Int.ediv_le_ediv hq h
  rw [Int.mul_ediv_cancel _ (by omega)] at h2
  exact h2
theorem part_pos {a d q : Int} (ha : 0 ≤ a) (hd : 0 ≤ d) (hq : 0 < q) : 0 ≤ a * d / q := Int.ediv_nonneg (Int.mul_nonneg ha hd) (by omega)
theorem part_mono {a d e q : Int} (ha : 0 ≤ a) (hq : 0 < q) (h : d ≤ e) : a * d / q ≤ a * e / q := Int.ediv_le_ediv hq (Int.mul_le_mul_of_nonneg_left h ha)
theorem part_all {a q : Int} (hq : 0 < q) : a * q / q = a := Int.mul_ediv_cancel _ (by omega)
theorem shE_ok {a d q : Int} (ha : 0 ≤ a) (ha2 : a ≤ 1125899906842624) (hd : 0 ≤ d) (hdq : d ≤ q) (hq : 0 < q) : shE a d q = 0 := by
  have := part_le ha hq hdq
  unfold shE mdE
  rw [if_neg (by omega), if_neg (by omega), if_neg (by omega)]
theorem shV_ok {a d q : Int} (ha : 0 ≤ a) (ha2 : a ≤ 1125899906842624) (hd : 0 ≤ d) (hdq : d ≤ q) (hq : 0 < q) : shV a d q = a * d / q := by
  unfold shV; rw [if_pos (shE_ok ha ha2 hd hdq hq)]
/-- What is owed where a part was paid as it should be. -/
theorem ow_ok {q a d n : Int} (hq : 0 < q) (ha : 0 ≤ a) (ha2 : a ≤ 1125899906842624) (hd : 0 ≤ d) (hn : 0 ≤ n) (hdn : d + n ≤ q) :
    owE q a d (a * d / q) n = 0 ∧ owV q a d (a * d / q) n = a * (d + n) / q - a * d / q := by
  have h1 : owE q a d (a * d / q) n = 0 := by
    have := part_pos ha hd hq
    have h2 := part_mono (d := d) (e := d + n) ha hq (by omega)
    unfold owE
    rw [if_neg (by unfold left; split <;> omega), if_neg (by rw [shE_ok ha ha2 (by omega) hdn hq]; simp), if_neg (by rw [shV_ok ha ha2 (by omega) hdn hq]; omega)]
  refine ⟨h1, ?_⟩
  unfold owV
  rw [if_pos h1, shV_ok ha ha2 (by omega) hdn hq]
theorem ow_over {q a d p n : Int} (hd : 0 ≤ d) (hdq : d ≤ q) (h : q < d + n) : owE q a d p n = 1 := by
  unfold owE
  rw [if_pos (by unfold left; rw [if_neg (by omega)]; omega)]
theorem left_ok {q d : Int} (hd : 0 ≤ d) (hdq : d ≤ q) : left q d = q - d := by unfold left; rw [if_neg (by omega)]
theorem shV_range {a d q : Int} (h : shE a d q = 0) : 0 ≤ shV a d q ∧ shV a d q ≤ 1152921504606846976 := by
  unfold shV
  rw [if_pos h]
  unfold shE mdE at h
  split at h
  · cases h
  · split at h
    · cases h
    · split at h
      · cases h
      · exact ⟨Ow.part_pos (by omega) (by omega) (by omega), by omega⟩
end Ow
end Go.Proofs.Ytiekolbkmgdfoaa
