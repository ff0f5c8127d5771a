/-
  The plain law of package wire: numbers in groups of seven bits, and back; what a writer holds and a reader finds, as functions on lists of bytes.
  Conditions: numbers of 64 bits. No program is in sight here.
-/
namespace Go.Proofs.YtjhinifmdjlblaaGreat
namespace Wire
abbrev Bs := List UInt8

/-! ### doubling -/
def zz (v : Int) : Nat := if 0 ≤ v then (2 * v).toNat else (-2 * v - 1).toNat
def unzz (n : Nat) : Int := if n % 2 = 0 then (n / 2 : Nat) else -((n / 2 : Nat) : Int) - 1
theorem zz_lt {v : Int} (h1 : -9223372036854775808 ≤ v) (h2 : v ≤ 9223372036854775807) : zz v < 18446744073709551616 := by unfold zz; split <;> omega
theorem unzz_zz (v : Int) : unzz (zz v) = v := by unfold unzz zz; split <;> split <;> omega
theorem zz_unzz (n : Nat) : zz (unzz n) = n := by unfold unzz zz; split <;> split <;> omega
theorem unzz_range {n : Nat} (h : n < 18446744073709551616) : -9223372036854775808 ≤ unzz n ∧ unzz n ≤ 9223372036854775807 := by unfold unzz; split <;> omega
theorem zz_inj {a b : Int} (h : zz a = zz b) : a = b := by rw [← unzz_zz a, h, unzz_zz]

/-! ### groups -/
def encF : Nat → Nat → Bs
  | 0, n => [UInt8.ofNat n]
  | f + 1, n => if n < 128 then [UInt8.ofNat n] else UInt8.ofNat (n % 128 + 128) :: encF f (n / 128)
def enc (n : Nat) : Bs := encF 9 n
theorem encF_pos (f n : Nat) : 0 < (encF f n).length := by cases f <;> unfold encF <;> (try split) <;> simp
theorem encF_le (f n : Nat) : (encF f n).length ≤ f + 1 := by
  induction f generalizing n with
  | zero => simp [encF]
  | succ f ih => unfold encF; split <;> simp; exact ih _
theorem enc_pos (n : Nat) : 0 < (enc n).length := encF_pos _ _
theorem enc_le (n : Nat) : (enc n).length ≤ 10 := encF_le _ _
theorem encF_small {f n : Nat} (h : n < 128) : encF f n = [UInt8.ofNat n] := by cases f <;> simp [encF, h]
theorem encF_more {f n : Nat} (h : ¬ n < 128) : encF (f + 1) n = UInt8.ofNat (n % 128 + 128) :: encF f (n / 128) := by simp [encF, h]

/-- A number at the front, read from group i on: the number and how many groups, or an error (4: no such form, 5: too short). -/
def dec (i acc : Nat) : Bs → Except Nat (Nat × Nat)
  | [] => .error 5
  | c :: r => if i = 9 ∧ 1 < c.toNat then .error 4 else if 128 ≤ c.toNat then dec (i + 1) (acc + c.toNat % 128 * 128 ^ i) r
    else if c.toNat = 0 ∧ 0 < i then .error 4 else .ok (acc + c.toNat * 128 ^ i, i + 1)

theorem ofNat_lt {n : Nat} (h : n < 256) : (UInt8.ofNat n).toNat = n := by rw [UInt8.toNat_ofNat']; omega
theorem pow_split (n i : Nat) : n % 128 * 128 ^ i + n / 128 * 128 ^ (i + 1) = n * 128 ^ i := by
  rw [Nat.pow_succ, Nat.mul_comm (128 ^ i) 128, ← Nat.mul_assoc, ← Nat.add_mul]
  congr 1
  omega

/-- What was laid is read as it was, whatever stands behind it. -/
theorem dec_enc (f : Nat) : ∀ (i acc n : Nat) (r : Bs), i + f = 9 → n < 2 * 128 ^ f → (0 < i → 0 < n) → dec i acc (encF f n ++ r) = .ok (acc + n * 128 ^ i, i + (encF f n).length) := by
  induction f with
  | zero =>
    intro i acc n r hi hn h0
    simp only [Nat.pow_zero, Nat.mul_one] at hn
    have hc : (UInt8.ofNat n).toNat = n := ofNat_lt (by omega)
    simp only [encF, List.singleton_append, dec, hc]
    rw [if_neg (by omega), if_neg (by omega), if_neg (by rintro ⟨rfl, h⟩; exact absurd (h0 h) (by omega))]
    simp
  | succ f ih =>
    intro i acc n r hi hn h0
    by_cases hs : n < 128
    · have hc : (UInt8.ofNat n).toNat = n := ofNat_lt (by omega)
      rw [encF_small hs]
      simp only [List.singleton_append, dec, hc]
      rw [if_neg (by omega), if_neg (by omega), if_neg (by rintro ⟨rfl, h⟩; exact absurd (h0 h) (by omega))]
      simp
    · have hc : (UInt8.ofNat (n % 128 + 128)).toNat = n % 128 + 128 := ofNat_lt (by omega)
      rw [encF_more hs]
      simp only [List.cons_append, dec, hc]
      rw [if_neg (by omega), if_pos (by omega), ih (i + 1) _ (n / 128) r (by omega) (by rw [Nat.pow_succ] at hn; omega) (by omega)]
      have e1 : (n % 128 + 128) % 128 = n % 128 := by omega
      rw [e1, Nat.add_assoc acc, pow_split]
      simp; omega
theorem two64 : (18446744073709551616 : Nat) = 2 * 128 ^ 9 := by decide
theorem dec_enc0 {n : Nat} (h : n < 18446744073709551616) (r : Bs) : dec 0 0 (enc n ++ r) = .ok (n, (enc n).length) := by
  have := dec_enc 9 0 0 n r rfl (by rw [← two64]; exact h) (by omega)
  simpa [enc] using this
/-- What is cut within a number is short. -/
theorem dec_cut (f : Nat) : ∀ (i acc n j : Nat), i + f = 9 → j < (encF f n).length → dec i acc ((encF f n).take j) = .error 5 := by
  induction f with
  | zero =>
    intro i acc n j _ hj
    simp [encF] at hj
    subst hj
    simp [dec]
  | succ f ih =>
    intro i acc n j hi hj
    by_cases hs : n < 128
    · rw [encF_small hs] at hj ⊢
      simp at hj
      subst hj
      simp [dec]
    · have hc : (UInt8.ofNat (n % 128 + 128)).toNat = n % 128 + 128 := ofNat_lt (by omega)
      rw [encF_more hs] at hj ⊢
      cases j with
      | zero => simp [dec]
      | succ j =>
        simp only [List.length_cons] at hj
        simp only [List.take_succ_cons, dec, hc]
        rw [if_neg (by omega), if_pos (by omega)]
        exact ih (i + 1) _ _ j (by omega) (by omega)
theorem dec_cut0 (n j : Nat) (h : j < (enc n).length) : dec 0 0 ((enc n).take j) = .error 5 := dec_cut 9 0 0 n j rfl h
/-- What is read without an error stands as it would be laid. -/
theorem enc_dec : ∀ (l : Bs) (i f acc N k : Nat), i + f = 9 → dec i acc l = .ok (N, k) → ∃ n, N = acc + n * 128 ^ i ∧ k = i + (encF f n).length ∧ (encF f n).length ≤ l.length ∧ l.take (encF f n).length = encF f n ∧ n < 2 * 128 ^ f ∧ (0 < i → 0 < n) := by
  intro l
  induction l with
  | nil => intro i f acc N k _ h; simp [dec] at h
  | cons c r ih =>
    intro i f acc N k hi h
    have hc := c.toNat_lt
    have hcc : UInt8.ofNat c.toNat = c := by simp
    simp only [dec] at h
    split at h
    · cases h
    · rename_i h9
      split at h
      · rename_i h128
        cases f with
        | zero => omega
        | succ f =>
          obtain ⟨n, rfl, rfl, hl, ht, hn, hp⟩ := ih (i + 1) f _ N k (by omega) h
          have hpos := hp (by omega)
          have hlt : ¬ (c.toNat % 128 + n * 128) < 128 := by omega
          have hm : (c.toNat % 128 + n * 128) % 128 + 128 = c.toNat := by omega
          have hd : (c.toNat % 128 + n * 128) / 128 = n := by omega
          have he : encF (f + 1) (c.toNat % 128 + n * 128) = c :: encF f n := by rw [encF_more hlt, hm, hd, hcc]
          refine ⟨c.toNat % 128 + n * 128, ?_, ?_, ?_, ?_, ?_, by omega⟩
          · rw [← pow_split (c.toNat % 128 + n * 128) i, hd, show (c.toNat % 128 + n * 128) % 128 = c.toNat % 128 from by omega, Nat.add_assoc]
          · rw [he, List.length_cons]; omega
          · rw [he, List.length_cons, List.length_cons]; omega
          · rw [he, List.length_cons, List.take_succ_cons, ht]
          · rw [Nat.pow_succ]; omega
      · rename_i h128
        split at h
        · cases h
        · rename_i hz
          injection h with h
          injection h with h1 h2
          subst h1 h2
          have he : encF f c.toNat = [c] := by rw [encF_small (by omega), hcc]
          refine ⟨c.toNat, rfl, by rw [he]; rfl, by rw [he]; simp, by rw [he]; simp, ?_, by omega⟩
          cases f with
          | zero => simp; omega
          | succ f =>
            have : 1 ≤ 128 ^ f := by have := Nat.pow_le_pow_right (n := 128) (by omega) (Nat.zero_le f); simpa using this
            rw [Nat.pow_succ]; omega
theorem enc_dec0 {l : Bs} {N k : Nat} (h : dec 0 0 l = .ok (N, k)) : k = (enc N).length ∧ k ≤ l.length ∧ l.take k = enc N ∧ N < 18446744073709551616 := by
  obtain ⟨n, rfl, rfl, hl, ht, hn, _⟩ := enc_dec l 0 9 0 N k rfl h
  rw [two64]
  simp only [Nat.zero_add, Nat.pow_zero, Nat.mul_one] at *
  exact ⟨rfl, hl, ht, hn⟩
theorem dec_err : ∀ (l : Bs) (i acc x : Nat), dec i acc l = .error x → x = 4 ∨ x = 5 := by
  intro l
  induction l with
  | nil => intro i acc x h; simp [dec] at h; exact .inr h.symm
  | cons c r ih =>
    intro i acc x h
    simp only [dec] at h
    split at h
    · injection h with h; exact .inl h.symm
    · split at h
      · exact ih _ _ _ h
      · split at h
        · injection h with h; exact .inl h.symm
        · cases h

/-! ### a writer: its error, its bytes -/
def wNum (b : Bs) (v : Int) : Bs := b ++ enc (zz v)
def wNums (b : Bs) (l : List Int) : Bs := l.foldl wNum b
theorem wNums_eq (b : Bs) (l : List Int) : wNums b l = b ++ (l.map fun v => enc (zz v)).flatten := by
  induction l generalizing b with
  | nil => simp [wNums]
  | cons v l ih =>
    have : wNums b (v :: l) = wNums (wNum b v) l := rfl
    rw [this, ih]; simp [wNum]
theorem wNum_len (b : Bs) (v : Int) : (wNum b v).length ≤ b.length + 10 := by
  unfold wNum; rw [List.length_append]; have := enc_le (zz v); omega

/-- A writer's state: its error (0: none) and its bytes. -/
abbrev St := Int × Bs
def stNum (st : St) (v : Int) : St := if st.1 = 0 then (0, wNum st.2 v) else st
def stText (st : St) (s : Bs) : St := if st.1 = 0 then (if 1000 < s.length then (2, st.2) else (0, wNum st.2 s.length ++ s)) else st
def stBool (st : St) (x : Bool) : St := if st.1 = 0 then (0, st.2 ++ [if x then 1 else 0]) else st
def stFail (st : St) (x : Int) : St := if st.1 = 0 then (x, st.2) else st
theorem stNum_off {st : St} (h : st.1 ≠ 0) (l : List Int) : l.foldl stNum st = st := by
  induction l with
  | nil => rfl
  | cons v l ih => simp only [List.foldl_cons]; rw [show stNum st v = st from by simp [stNum, h]]; exact ih
theorem stText_off {st : St} (h : st.1 ≠ 0) (l : List Bs) : l.foldl stText st = st := by
  induction l with
  | nil => rfl
  | cons v l ih => simp only [List.foldl_cons]; rw [show stText st v = st from by simp [stText, h]]; exact ih
theorem stBool_off {st : St} (h : st.1 ≠ 0) (l : List Bool) : l.foldl stBool st = st := by
  induction l with
  | nil => rfl
  | cons v l ih => simp only [List.foldl_cons]; rw [show stBool st v = st from by simp [stBool, h]]; exact ih
theorem stNum_len (st : St) (l : List Int) : (l.foldl stNum st).2.length ≤ st.2.length + 10 * l.length := by
  induction l generalizing st with
  | nil => simp
  | cons v l ih =>
    simp only [List.foldl_cons, List.length_cons]
    have h1 := ih (stNum st v)
    have h2 : (stNum st v).2.length ≤ st.2.length + 10 := by
      unfold stNum; split
      · exact wNum_len _ _
      · omega
    omega
theorem stText_len (st : St) (l : List Bs) : (l.foldl stText st).2.length ≤ st.2.length + 1010 * l.length := by
  induction l generalizing st with
  | nil => simp
  | cons s l ih =>
    simp only [List.foldl_cons, List.length_cons]
    have h1 := ih (stText st s)
    have h2 : (stText st s).2.length ≤ st.2.length + 1010 := by
      unfold stText; split
      · split
        · simp
        · have := wNum_len st.2 s.length; simp only [List.length_append]; omega
      · omega
    omega
theorem stBool_len (st : St) (l : List Bool) : (l.foldl stBool st).2.length ≤ st.2.length + l.length := by
  induction l generalizing st with
  | nil => simp
  | cons x l ih =>
    simp only [List.foldl_cons, List.length_cons]
    have h1 := ih (stBool st x)
    have h2 : (stBool st x).2.length ≤ st.2.length + 1 := by unfold stBool; split <;> simp
    omega
theorem stNum_ok {b : Bs} (l : List Int) : l.foldl stNum ((0, b) : St) = (0, wNums b l) := by
  induction l generalizing b with
  | nil => rfl
  | cons v l ih => simp only [List.foldl_cons]; rw [show stNum (0, b) v = (0, wNum b v) from rfl, ih]; rfl
end Wire
end Go.Proofs.YtjhinifmdjlblaaGreat
