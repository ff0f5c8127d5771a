/-
  The plain law of CalGoes: of at most 300 holidays there is a day of business soon; days of business are counted as they are gone.
  Conditions: each lemma's own premises. No program is in sight here.
-/
import Derived.Test.YthnhdcfhlokalaaCalPlain
namespace Go.Proofs.Ythnhdcfhlokalaa
namespace Dy
def wk (d : Int) : Bool := decide (0 ≤ d ∧ d ≤ 1000000 ∧ d % 7 < 5)
theorem wk_yes {d : Int} (h : 0 ≤ d ∧ d ≤ 1000000 ∧ d % 7 < 5) : wk d = true := decide_eq_true h
theorem wk_no {d : Int} (h : ¬ (0 ≤ d ∧ d ≤ 1000000 ∧ d % 7 < 5)) : wk d = false := decide_eq_false h
theorem cntF_one (B : Int → Bool) (d : Int) : cntF B 1 d = if B (d + 1) then 1 else 0 := by simp [cntF]
theorem week (d : Int) (h0 : -1 ≤ d) (h1 : d + 7 ≤ 1000000) : cntF wk 7 d = 5 := by
  have e : ∀ x : Int, (if wk x then (1 : Int) else 0) = if 0 ≤ x ∧ x ≤ 1000000 ∧ x % 7 < 5 then 1 else 0 := by
    intro x
    by_cases h : 0 ≤ x ∧ x ≤ 1000000 ∧ x % 7 < 5
    · rw [wk_yes h, if_pos h]; rfl
    · rw [wk_no h, if_neg h]; rfl
  simp only [cntF, e]
  have h6 : d % 7 = 0 ∨ d % 7 = 1 ∨ d % 7 = 2 ∨ d % 7 = 3 ∨ d % 7 = 4 ∨ d % 7 = 5 ∨ d % 7 = 6 := by omega
  have c : ∀ x : Int, d < x → x ≤ d + 7 → (if 0 ≤ x ∧ x ≤ 1000000 ∧ x % 7 < 5 then (1 : Int) else 0) = if x % 7 < 5 then 1 else 0 := by
    intro x hx1 hx2
    by_cases h : x % 7 < 5
    · rw [if_pos h, if_pos (by omega)]
    · rw [if_neg h, if_neg (by omega)]
  rw [c _ (by omega) (by omega), c _ (by omega) (by omega), c _ (by omega) (by omega), c _ (by omega) (by omega), c _ (by omega) (by omega), c _ (by omega) (by omega), c _ (by omega) (by omega)]
  rcases h6 with h | h | h | h | h | h | h
  all_goals
    repeat (first | rw [if_pos (show (_ : Int) % 7 < 5 by omega)] | rw [if_neg (show ¬ (_ : Int) % 7 < 5 by omega)])
    rfl
theorem weeks (k : Nat) : ∀ d : Int, -1 ≤ d → d + 7 * k ≤ 1000000 → cntF wk (7 * k) d = 5 * k := by
  induction k with
  | zero => intro d _ _; rfl
  | succ k ih =>
    intro d h0 h1
    rw [show 7 * (k + 1) = 7 + 7 * k from by omega, cntF_split, week d h0 (by omega), ih _ (by omega) (by omega)]
    omega
/-- One day less. -/
theorem cnt_less (B : Int → Bool) (a : Int) (f : Nat) : ∀ d : Int, cntF B f d ≤ cntF (fun x => B x && !(x == a)) f d + (if d < a then 1 else 0) := by
  induction f with
  | zero => intro d; simp only [cntF]; split <;> omega
  | succ f ih =>
    intro d
    have h := ih (d + 1)
    simp only [cntF]
    by_cases ha : d + 1 = a
    · have e1 : (B (d + 1) && !(d + 1 == a)) = false := by simp [ha]
      rw [if_neg (show ¬ d + 1 < a by omega)] at h
      rw [if_pos (show d < a by omega)]
      simp only [e1, Bool.false_eq_true, if_false]
      split <;> omega
    · have e1 : (B (d + 1) && !(d + 1 == a)) = B (d + 1) := by simp [ha]
      simp only [e1]
      have e2 : (if d + 1 < a then (1 : Int) else 0) = if d < a then 1 else 0 := by
        by_cases h2 : d < a
        · rw [if_pos h2, if_pos (by omega)]
        · rw [if_neg h2, if_neg (by omega)]
      rw [e2] at h
      omega
theorem cnt_congr {B C : Int → Bool} (h : ∀ x, B x = C x) (f : Nat) (d : Int) : cntF B f d = cntF C f d := by
  have : B = C := funext h
  rw [this]
theorem cnt_list (B : Int → Bool) (l : List Int) (f : Nat) (d : Int) : cntF B f d ≤ cntF (fun x => B x && !(l.contains x)) f d + l.length := by
  induction l generalizing B with
  | nil =>
    have := cnt_congr (B := B) (C := fun x => B x && !(([] : List Int).contains x)) (fun x => by simp) f d
    simp at this ⊢
  | cons a l ih =>
    have h1 := cnt_less B a f d
    have h2 := ih (fun x => B x && !(x == a))
    have h3 := cnt_congr (B := fun x => (B x && !(x == a)) && !(l.contains x)) (C := fun x => B x && !((a :: l).contains x)) (fun x => by
      rw [List.contains_cons, Bool.not_or, Bool.and_assoc]) f d
    rw [h3] at h2
    have h4 : (if d < a then (1 : Int) else 0) ≤ 1 := by split <;> omega
    simp only [List.length_cons]
    omega
theorem cnt_zero (B : Int → Bool) (f : Nat) : ∀ d : Int, (∀ x, d < x → x ≤ d + f → B x = false) → cntF B f d = 0 := by
  induction f with
  | zero => intro d _; rfl
  | succ f ih =>
    intro d h
    simp only [cntF]
    rw [h (d + 1) (by omega) (by omega), ih (d + 1) (fun x h1 h2 => h x (by omega) (by omega))]
    rfl
/-- So many on: counted, and in steps. -/
theorem add_cnt (B : Int → Bool) (n : Nat) : ∀ (f : Nat) (d : Int), 0 ≤ d → d + f ≤ 1000000 → (n : Int) ≤ cntF B f d →
    d ≤ add B n d ∧ add B n d ≤ d + f ∧ cntF B (add B n d - d).toNat d = n ∧ ∀ m : Nat, add B (n + m) d = add B m (add B n d) := by
  induction n with
  | zero =>
    intro f d h0 h1 _
    refine ⟨by simp only [add]; omega, by simp only [add]; omega, ?_, fun m => by rw [Nat.zero_add]; rfl⟩
    rw [add_zero, Int.sub_self]; rfl
  | succ n ih =>
    intro f d h0 h1 hc
    have hm : max d (-1) = d := by omega
    have hn := nextF_pos B (1000000 - d).toNat d (by omega)
    have hne : next B d = nextF B (1000000 - d).toNat d := by unfold next; rw [hm]
    rw [← hne] at hn
    rcases hn with ⟨_, h3⟩ | ⟨h3, h4, h5, h6, h7⟩
    · exfalso
      have hs := cntF_split B f ((1000000 - d).toNat - f) d
      rw [show f + ((1000000 - d).toNat - f) = (1000000 - d).toNat from by omega, h3] at hs
      have := cntF_nonneg B ((1000000 - d).toNat - f) (d + f)
      omega
    · have hx : next B d ≤ d + f := by
        rcases Int.lt_or_le (d + f) (next B d) with hlt | hle
        · have := cnt_zero B f d (fun x hx1 hx2 => h6 x hx1 (by omega))
          omega
        · exact hle
      obtain ⟨x, hxe⟩ : ∃ x, next B d = x := ⟨_, rfl⟩
      rw [hxe] at h3 h4 h5 h6 h7 hx
      obtain ⟨g, hg⟩ : ∃ g : Nat, (g : Int) = x - d := ⟨(x - d).toNat, by omega⟩
      have hsp := cntF_split B g (f - g) d
      rw [show g + (f - g) = f from by omega, show d + (g : Int) = x from by omega] at hsp
      have hg7 : cntF B g d = 1 := by rw [← h7]; congr 1; omega
      have ihx := ih (f - g) x (by omega) (by omega) (by omega)
      have hadd : add B (n + 1) d = add B n x := by rw [add_yes B (by omega), hxe]
      rw [hadd]
      refine ⟨by omega, by omega, ?_, fun m => ?_⟩
      · have hs2 := cntF_split B g (add B n x - x).toNat d
        rw [show d + (g : Int) = x from by omega, show g + (add B n x - x).toNat = (add B n x - d).toNat from by omega] at hs2
        rw [hs2, hg7, ihx.2.2.1]; omega
      · rw [show n + 1 + m = (n + m) + 1 from by omega, add_yes B (by omega), hxe]
        exact ihx.2.2.2 m
theorem days_in (B : Int → Bool) {x y : Int} (hx : 0 ≤ x) (hy : y ≤ 1000000) : days B x y = cntF B (y - x).toNat x := by
  unfold days
  rw [show max x (-1) = x from by omega, show min y 1000000 = y from by omega]
/-- What CalGoes asks of its days. -/
theorem goes {B : Int → Bool} {l : List Int} (hB : ∀ x, B x = (wk x && !(l.contains x))) (hl : l.length ≤ 300) {day : Int} {n m : Nat} (h0 : 0 ≤ day) (h1 : day ≤ 900000) (hn1 : 1 ≤ n) (hn2 : n ≤ 60) (hm1 : 1 ≤ m) (hm2 : m ≤ 60) :
    ∃ x y : Int, next B day = x ∧ add B n day = y ∧ day < x ∧ x ≤ 1000000 ∧ B x = true ∧ (∀ d, day < d → d < x → B d = false) ∧ day ≤ y ∧ y ≤ 900700 ∧ days B day x = 1 ∧ days B day y = n ∧ add B m y = add B (n + m) day ∧
      days B day y + days B y (y + m) = days B day (y + m) := by
  have hcnt : 200 ≤ cntF B 700 day := by
    have h2 := cnt_list wk l 700 day
    have h3 : cntF wk 700 day = 5 * ((100 : Nat) : Int) := weeks 100 day (by omega) (by omega)
    have h4 := cnt_congr hB 700 day
    rw [← h4, h3] at h2
    omega
  have ha := add_cnt B n 700 day h0 (by omega) (by omega)
  have hm : max day (-1) = day := by omega
  have hn := nextF_pos B (1000000 - day).toNat day (by omega)
  have hne : next B day = nextF B (1000000 - day).toNat day := by unfold next; rw [hm]
  rw [← hne] at hn
  rcases hn with ⟨_, h3⟩ | ⟨h3, h4, h5, h6, h7⟩
  · exfalso
    have hs := cntF_split B 700 ((1000000 - day).toNat - 700) day
    rw [show 700 + ((1000000 - day).toNat - 700) = (1000000 - day).toNat from by omega, h3] at hs
    have := cntF_nonneg B ((1000000 - day).toNat - 700) (day + (700 : Nat))
    omega
  · obtain ⟨a1, a2, a3, a4⟩ := ha
    refine ⟨_, _, rfl, rfl, h3, by omega, h5, h6, a1, by omega, ?_, ?_, (a4 m).symm, ?_⟩
    · rw [days_in B h0 (by omega)]; exact h7
    · rw [days_in B h0 (by omega)]; exact a3
    · rw [days_in B h0 (by omega), days_in B (by omega) (by omega), days_in B h0 (by omega)]
      generalize add B n day = y at *
      have hs := cntF_split B (y - day).toNat m day
      rw [show day + (((y - day).toNat : Nat) : Int) = y from by omega, show (y - day).toNat + m = (y + m - day).toNat from by omega] at hs
      rw [hs, show (y + (m : Int) - y).toNat = m from by omega]
end Dy
end Go.Proofs.Ythnhdcfhlokalaa
