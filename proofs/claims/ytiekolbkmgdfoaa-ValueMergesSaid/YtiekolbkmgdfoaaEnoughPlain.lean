/-
  Chapter 20, in plain words: what can be picked for so much can be picked for less; more stocks behind change nothing; what each pick is.
  Conditions: as each lemma says.
-/
import Derived.Test.YtiekolbkmgdfoaaPick
namespace Go.Proofs.Ytiekolbkmgdfoaa

namespace Nd
theorem bs_mono (p c : Int) {v' v : Int} (h : v' ≤ v) (f : Nat) : ∀ lo hi : Int, lo ≤ hi → bs v' p c f lo hi ≤ bs v p c f lo hi := by
  induction f with
  | zero => intro lo hi _; simp only [bs]; omega
  | succ f ih =>
    intro lo hi hlh
    simp only [bs]
    split
    · rename_i hl
      by_cases h1 : v ≤ Wo.wV (lo + (hi - lo) / 2) p c
      · rw [if_pos h1, if_pos (by omega)]
        exact ih _ _ (by omega)
      · rw [if_neg h1]
        by_cases h2 : v' ≤ Wo.wV (lo + (hi - lo) / 2) p c
        · rw [if_pos h2]
          have a := bs_range v' p c f lo (lo + (hi - lo) / 2) (by omega)
          have b := bs_range v p c f (lo + (hi - lo) / 2 + 1) hi (by omega)
          omega
        · rw [if_neg h2]
          exact ih _ _ (by omega)
    · omega
theorem bs_hit (v p c : Int) (f : Nat) : ∀ lo hi : Int, lo ≤ hi → hi - lo < 2 ^ f → bs v p c f lo hi < hi → v ≤ Wo.wV (bs v p c f lo hi) p c := by
  induction f with
  | zero => intro lo hi h1 h2 h3; rw [Int.pow_zero] at h2; simp only [bs] at h3; omega
  | succ f ih =>
    intro lo hi h1 h2 h3
    rw [Int.pow_succ] at h2
    simp only [bs] at h3 ⊢
    by_cases hl : lo < hi
    · rw [if_pos hl] at h3 ⊢
      by_cases h4 : v ≤ Wo.wV (lo + (hi - lo) / 2) p c
      · rw [if_pos h4] at h3 ⊢
        have a := bs_range v p c f lo (lo + (hi - lo) / 2) (by omega)
        rcases Int.lt_or_le (bs v p c f lo (lo + (hi - lo) / 2)) (lo + (hi - lo) / 2) with h5 | h5
        · exact ih _ _ (by omega) (by omega) h5
        · have h6 : bs v p c f lo (lo + (hi - lo) / 2) = lo + (hi - lo) / 2 := by omega
          rw [h6]; exact h4
      · rw [if_neg h4] at h3 ⊢
        exact ih _ _ (by omega) (by omega) h3
    · rw [if_neg hl] at h3
      omega
theorem needE_parts {v p c : Int} (h : needE v p c = 0) : ¬ Wo.bad v p c ∧ found v p c ≤ most p ∧ needV v p c = found v p c := by
  have hv : needV v p c = found v p c := by unfold needV; rw [if_pos h]
  unfold needE at h
  split at h
  · cases h
  · rename_i hb
    split at h
    · cases h
    · exact ⟨hb, by omega, hv⟩
theorem needE_of {v p c : Int} (hb : ¬ Wo.bad v p c) (h : found v p c ≤ most p) : needE v p c = 0 := by
  unfold needE
  rw [if_neg hb, if_neg (by omega)]
theorem need_hit {v p c : Int} (h : needE v p c = 0) : v ≤ Wo.wV (needV v p c) p c := by
  obtain ⟨hb, hm, hv⟩ := needE_parts h
  rw [hv]
  have hp : 0 ≤ p := by unfold Wo.bad at hb; omega
  have hr := most_range hp
  have hf : found v p c = bs v p c 64 0 (most p + 1) := rfl
  rw [hf] at hm ⊢
  exact bs_hit v p c 64 0 (most p + 1) (by omega) (by rw [pow64]; omega) (by omega)
theorem need_mono {v' v p c : Int} (h0 : 0 ≤ v') (hv : v' ≤ v) (h : needE v p c = 0) : needE v' p c = 0 ∧ needV v' p c ≤ needV v p c := by
  obtain ⟨hb, hm, hV⟩ := needE_parts h
  have hb' : ¬ Wo.bad v' p c := by unfold Wo.bad at hb ⊢; omega
  have hr := most_range (p := p) (by unfold Wo.bad at hb; omega)
  have hle : found v' p c ≤ found v p c := bs_mono p c hv 64 0 (most p + 1) (by omega)
  have he := needE_of hb' (by omega)
  exact ⟨he, by rw [(needE_parts he).2.2, hV]; exact hle⟩
end Nd

namespace Vl
/-- The least multiple of u that is not below n. -/
def rnd (n u : Int) : Int := if n % u = 0 then n else n + u - n % u
theorem rnd_spec {n u : Int} (hu : 1 ≤ u) : (∃ a, rnd n u = u * a) ∧ n ≤ rnd n u ∧ rnd n u < n + u := by
  have h1 := Int.emod_lt_of_pos n (show 0 < u by omega)
  have h2 := Int.emod_nonneg n (show u ≠ 0 by omega)
  have h3 := Int.mul_ediv_add_emod n u
  unfold rnd
  split
  · exact ⟨⟨n / u, by omega⟩, by omega, by omega⟩
  · exact ⟨⟨n / u + 1, by rw [Int.mul_add]; omega⟩, by omega, by omega⟩
theorem rnd_mono {n' n u : Int} (hu : 1 ≤ u) (h : n' ≤ n) : rnd n' u ≤ rnd n u := by
  obtain ⟨⟨a, ha⟩, _, a2⟩ := rnd_spec (n := n') hu
  obtain ⟨⟨b, hb⟩, b1, _⟩ := rnd_spec (n := n) hu
  rcases Int.lt_or_le (rnd n u) (rnd n' u) with h1 | h1
  · exfalso
    have hab : b + 1 ≤ a := by
      rcases Int.lt_or_le b a with h2 | h2
      · omega
      · have := Int.mul_le_mul_of_nonneg_left h2 (show 0 ≤ u by omega)
        omega
    have := Int.mul_le_mul_of_nonneg_left hab (show 0 ≤ u by omega)
    rw [Int.mul_add] at this
    omega
  · exact h1
theorem up_rnd {n u m : Int} (hu : 1 ≤ u) : (upB n u m = true ↔ rnd n u ≤ m) ∧ (rnd n u ≤ m → upV n u m = rnd n u) := by
  have h1 := Int.emod_lt_of_pos n (show 0 < u by omega)
  have h2 := Int.emod_nonneg n (show u ≠ 0 by omega)
  unfold upB upV rnd
  by_cases h3 : n % u = 0
  · rw [if_pos h3, if_pos h3]
    refine ⟨?_, fun h => by rw [if_neg (by omega)]⟩
    simp [h3]
  · rw [if_neg h3, if_neg h3]
    refine ⟨?_, fun h => by rw [if_neg (by omega), if_neg (by omega)]⟩
    simp [h3]
    omega
theorem le_whole {u a q : Int} (hu : 1 ≤ u) (h : u * a ≤ q) : u * a ≤ q - q % u := by
  have h3 := Int.mul_ediv_add_emod q u
  have h1 := Int.emod_lt_of_pos q (show 0 < u by omega)
  have hab : a ≤ q / u := by
    rcases Int.lt_or_le (q / u) a with h2 | h2
    · have := Int.mul_le_mul_of_nonneg_left (show q / u + 1 ≤ a by omega) (show 0 ≤ u by omega)
      rw [Int.mul_add] at this
      omega
    · exact h2
  have := Int.mul_le_mul_of_nonneg_left hab (show 0 ≤ u by omega)
  omega
theorem whole_spec {u q : Int} (hu : 1 ≤ u) (hq : 1 ≤ q) : (∃ a, q - q % u = u * a) ∧ 0 ≤ q - q % u ∧ q - q % u ≤ q := by
  have h3 := Int.mul_ediv_add_emod q u
  have h1 := Int.emod_nonneg q (show u ≠ 0 by omega)
  have h4 := le_whole (u := u) (a := 0) (q := q) hu (by omega)
  exact ⟨⟨q / u, by omega⟩, by omega, by omega⟩
theorem muchW_eq {k : Int} {x : St} (h : ¬ x.no) : muchW k x = Wo.wV (tk k x) x.p x.c := by
  unfold muchW
  rw [if_neg h]
  split
  · rename_i h1
    rcases h1 with h1 | h1
    · unfold Wo.wV; rw [if_neg h1]
    · exact h1.symm
  · rfl
/-- Which of both ways a taking goes. -/
theorem tk_cases (k : Int) (x : St) (hu : 1 ≤ x.u) : (Nd.needE k x.p x.c = 0 ∧ rnd (Nd.needV k x.p x.c) x.u ≤ x.q ∧ tk k x = rnd (Nd.needV k x.p x.c) x.u) ∨ (¬ (Nd.needE k x.p x.c = 0 ∧ rnd (Nd.needV k x.p x.c) x.u ≤ x.q) ∧ tk k x = x.q - x.q % x.u) := by
  have hr := up_rnd (n := Nd.needV k x.p x.c) (m := x.q) hu
  by_cases h : Nd.needE k x.p x.c = 0 ∧ rnd (Nd.needV k x.p x.c) x.u ≤ x.q
  · left
    refine ⟨h.1, h.2, ?_⟩
    unfold tk
    rw [if_pos ⟨h.1, hr.1.2 h.2⟩]
    exact hr.2 h.2
  · right
    refine ⟨h, ?_⟩
    unfold tk
    rw [if_neg fun h1 => h ⟨h1.1, hr.1.1 h1.2⟩]
theorem not_no {x : St} (h : ¬ x.no) : x.pl = true ∧ 1 ≤ x.u ∧ 1 ≤ x.q := by
  unfold St.no at h
  cases hp : x.pl
  · simp [hp] at h
  · simp [hp] at h; exact ⟨rfl, by omega, by omega⟩
theorem tk_spec {k : Int} {x : St} (h : ¬ x.no) : (∃ a, tk k x = x.u * a) ∧ 0 ≤ tk k x ∧ tk k x ≤ x.q := by
  obtain ⟨_, hu, hq⟩ := not_no h
  rcases tk_cases k x hu with ⟨_, h1, h2⟩ | ⟨_, h2⟩
  · rw [h2]
    obtain ⟨a1, a2, a3⟩ := rnd_spec (n := Nd.needV k x.p x.c) hu
    exact ⟨a1, by have := (Nd.needV_range k x.p x.c).1; omega, h1⟩
  · rw [h2]
    exact whole_spec hu hq
theorem wV_mono {n t p c : Int} (h : n ≤ t) (hp : 0 ≤ p) (hc : 0 ≤ c ∧ c ≤ 10000) (hn : 0 ≤ n) (ht : Wo.wE t p c = 0) : Wo.wV n p c ≤ Wo.wV t p c := by
  have hbt : ¬ Wo.bad t p c := by unfold Wo.bad; omega
  have hbn : ¬ Wo.bad n p c := by unfold Wo.bad; omega
  have h1 : ¬ 1152921504606846976 < t * p := by
    intro h1
    rw [(Wo.wE_over hbt h1).1] at ht
    cases ht
  have h2 : n * p ≤ t * p := Int.mul_le_mul_of_nonneg_right h hp
  rw [(Wo.wE_fine hbt h1).2, (Wo.wE_fine hbn (by omega)).2]
  exact Int.ediv_le_ediv (by omega) (Int.mul_le_mul_of_nonneg_right h2 (by omega))
theorem step {k' k : Int} (x : St) (h0 : 0 < k') (hk : k' ≤ k) : k' ≤ muchW k' x ∨ muchW k' x = muchW k x ∨ muchW k x = 0 := by
  by_cases hn : x.no
  · right; left
    unfold muchW
    rw [if_pos hn, if_pos hn]
  · obtain ⟨_, hu, hq⟩ := not_no hn
    rw [muchW_eq hn, muchW_eq hn]
    rcases tk_cases k' x hu with ⟨e1, h1, h2⟩ | ⟨h1, h2⟩
    · have hb := (Nd.needE_parts e1).1
      have hb2 := hb
      unfold Wo.bad at hb2
      have hr := rnd_spec (n := Nd.needV k' x.p x.c) hu
      have hnv := (Nd.needV_range k' x.p x.c).1
      by_cases he : Wo.wE (tk k' x) x.p x.c = 0
      · left
        refine Int.le_trans (Nd.need_hit e1) (wV_mono ?_ (by omega) (by omega) hnv he)
        rw [h2]; exact hr.2.1
      · right; right
        have hbt : ¬ Wo.bad (tk k' x) x.p x.c := by rw [h2]; unfold Wo.bad; omega
        have hov : 1152921504606846976 < tk k' x * x.p := by
          rcases Int.lt_or_le 1152921504606846976 (tk k' x * x.p) with h3 | h3
          · exact h3
          · exact absurd (Wo.wE_fine hbt (by omega)).1 he
        have hle : tk k' x ≤ tk k x := by
          rcases tk_cases k x hu with ⟨e3, h3, h4⟩ | ⟨_, h4⟩
          · rw [h2, h4]
            exact rnd_mono hu (Nd.need_mono (by omega) hk e3).2
          · rw [h2, h4]
            obtain ⟨a, ha⟩ := hr.1
            rw [ha]
            exact le_whole hu (by rw [← ha]; exact h1)
        have h5 : tk k' x * x.p ≤ tk k x * x.p := Int.mul_le_mul_of_nonneg_right hle (by omega)
        have hbk : ¬ Wo.bad (tk k x) x.p x.c := by have := (tk_spec (k := k) hn).2.1; unfold Wo.bad; omega
        exact (Wo.wE_over hbk (by omega)).2
    · right; left
      rcases tk_cases k x hu with ⟨e3, h3, _⟩ | ⟨_, h4⟩
      · exfalso
        have hm := Nd.need_mono (show 0 ≤ k' by omega) hk e3
        exact h1 ⟨hm.1, Int.le_trans (rnd_mono hu hm.2) h3⟩
      · rw [h2, h4]
/-- What is taken, if something is. -/
theorem took {k : Int} {x : St} (h : 0 < muchQ k x) : x.pl = true ∧ 1 ≤ x.u ∧ muchQ k x % x.u = 0 ∧ muchQ k x ≤ x.q ∧ Wo.wE (muchQ k x) x.p x.c = 0 ∧ Wo.wV (muchQ k x) x.p x.c = muchW k x ∧ 0 < muchW k x := by
  have hn : ¬ x.no := by
    intro hn
    unfold muchQ at h
    rw [if_pos hn] at h
    omega
  have h1 : ¬ (Wo.wE (tk k x) x.p x.c ≠ 0 ∨ Wo.wV (tk k x) x.p x.c = 0) := by
    intro h1
    unfold muchQ at h
    rw [if_neg hn, if_pos h1] at h
    omega
  have hq : muchQ k x = tk k x := by unfold muchQ; rw [if_neg hn, if_neg h1]
  obtain ⟨⟨a, ha⟩, t1, t2⟩ := tk_spec (k := k) hn
  rw [hq, muchW_eq hn]
  refine ⟨(not_no hn).1, (not_no hn).2.1, by rw [ha]; exact Int.mul_emod_right _ _, t2, by simp at h1; exact h1.1, rfl, ?_⟩
  have := Wo.wV_range (tk k x) x.p x.c
  simp at h1
  omega
theorem took_not {k : Int} {x : St} (h : ¬ 0 < muchQ k x) : muchW k x = 0 := by
  by_cases hn : x.no
  · unfold muchW; rw [if_pos hn]
  · unfold muchW
    rw [if_neg hn]
    split
    · rfl
    · rename_i h1
      exfalso
      have hq : muchQ k x = tk k x := by unfold muchQ; rw [if_neg hn, if_neg h1]
      rw [hq] at h
      have ht := (tk_spec (k := k) hn).2.1
      have h0 : tk k x = 0 := by omega
      rw [h0] at h1
      apply h1
      right
      by_cases hb : Wo.bad 0 x.p x.c
      · exact (Wo.wE_bad hb).2
      · rw [(Wo.wE_fine hb (by rw [Int.zero_mul]; omega)).2, Int.zero_mul, Int.zero_mul]; rfl
theorem pk2 {k : Int} {x : St} {r : List St} (h : 0 < k) : (pk k (x :: r)).2 = (pk (k - muchW k x) r).2 := by
  simp only [pk]
  rw [if_neg (by omega)]
  split
  · rfl
  · rename_i h1
    rw [took_not h1, Int.sub_zero]
theorem enough (l : List St) : ∀ k' k : Int, k' ≤ k → (pk k l).2 ≤ 0 → (pk k' l).2 ≤ 0 := by
  induction l with
  | nil => intro k' k h h1; simp only [pk] at h1 ⊢; omega
  | cons x r ih =>
    intro k' k h h1
    by_cases h0 : k' ≤ 0
    · rw [pk_done h0]; exact h0
    · rw [pk2 (by omega)] at h1 ⊢
      rcases step x (show 0 < k' by omega) h with h2 | h2 | h2
      · rw [pk_done (by omega)]; show k' - _ ≤ 0; omega
      · exact ih _ _ (by omega) h1
      · have := (muchW_range k' x).1
        exact ih _ _ (by omega) h1
theorem pk_more (l m : List St) : ∀ k : Int, (pk k l).2 ≤ 0 → pk k (l ++ m) = pk k l := by
  induction l with
  | nil => intro k h; simp only [pk] at h; rw [List.nil_append, pk_done h]; rfl
  | cons x r ih =>
    intro k h
    by_cases h0 : k ≤ 0
    · rw [pk_done h0, pk_done h0]
    · simp only [List.cons_append, pk] at h ⊢
      rw [if_neg h0] at h ⊢
      rw [if_neg h0]
      split
      · rename_i h1
        rw [if_pos h1] at h
        rw [ih _ h]
      · rename_i h1
        rw [if_neg h1] at h
        exact ih _ h
theorem pk_len (l : List St) : ∀ k : Int, (pk k l).1.length ≤ l.length := by
  induction l with
  | nil => intro k; exact Nat.le_refl _
  | cons x r ih =>
    intro k
    simp only [pk]
    split
    · simp
    · split
      · have := ih (k - muchW k x)
        simp only [List.length_cons]
        omega
      · have := ih k
        simp only [List.length_cons]
        omega
/-- What may not be pledged. -/
theorem pk_no (l : List St) (h : ∀ x ∈ l, x.pl = false) : ∀ k : Int, pk k l = ([], k) := by
  induction l with
  | nil => intro k; rfl
  | cons x r ih =>
    intro k
    have hx : x.no := .inl (h x (by simp))
    have hq : ¬ 0 < muchQ k x := by unfold muchQ; rw [if_pos hx]; omega
    simp only [pk]
    split
    · rfl
    · first
        | exact ih (fun y hy => h y (by simp [hy])) k
        | (rw [if_neg hq]; exact ih (fun y hy => h y (by simp [hy])) k)
end Vl
end Go.Proofs.Ytiekolbkmgdfoaa
