/-
  The walk of CalGoes: the next day is one of business, and there is none between; adding goes step by step; days between add up.
  Conditions: ints, in a list that the call reads.
-/
import Derived.Test.YthnhdcfhlokalaaCal5
import Derived.Test.YthnhdcfhlokalaaCalGoesPlain
namespace Go.Proofs.Ythnhdcfhlokalaa
open Go.RowKit Go.Maps

theorem hasD_setD (l : List Int) (d : Int) : hasD (setD l) d = l.contains d := by
  unfold hasD setD
  rw [has_setOf _ _ _ (by intro x hx; simp only [List.mem_map] at hx; obtain ⟨y, _, rfl⟩ := hx; simp [WideAt.IsKeyLit])]
  induction l with
  | nil => rfl
  | cons a l ih =>
    simp only [List.map_cons, List.any_cons, List.contains_cons]
    rw [ih]
    congr 1
    by_cases h : d = a
    · subst h
      rw [beq_self_eq_true]
      simp [Lit.sameKey]
    · rw [sameKey_ne (by intro e; injection e with _ e; exact h e.symm)]
      simp [h]
theorem isB_setD (l : List Int) (x : Int) : isB (setD l) x = (Dy.wk x && !(l.contains x)) := by unfold isB Dy.wk; rw [hasD_setD]

set_option maxHeartbeats 4000000 in
set_option maxRecDepth 100000 in
theorem goes_bad (l : List Int) (A : Option Addr) (cp : Nat) (day n m : Int) (w : World) (hr : Reads w w.heap.size 1 A l.length (ints l)) (hl : l.length ≤ 9223372036854775807) (hv : ∀ v ∈ l, -9223372036854775808 ≤ v ∧ v ≤ 9223372036854775807)
    (h : errNew l ≠ 0 ∨ (errNew l = 0 ∧ (300 < l.length ∨ (l.length ≤ 300 ∧ day < 0) ∨ (l.length ≤ 300 ∧ 0 ≤ day ∧ 900000 < day) ∨ (l.length ≤ 300 ∧ 0 ≤ day ∧ day ≤ 900000 ∧ n < 1) ∨ (l.length ≤ 300 ∧ 0 ≤ day ∧ day ≤ 900000 ∧ 1 ≤ n ∧ 60 < n) ∨
      (l.length ≤ 300 ∧ 0 ≤ day ∧ day ≤ 900000 ∧ 1 ≤ n ∧ n ≤ 60 ∧ m < 1) ∨ (l.length ≤ 300 ∧ 0 ≤ day ∧ day ≤ 900000 ∧ 1 ≤ n ∧ n ≤ 60 ∧ 1 ≤ m ∧ 60 < m)))) :
    Calls Try.prog 3 #[.slice A l.length cp, .int .i64 day, .int .i64 n, .int .i64 m] w fun e w' => e = .returned (.bool true) ∧ Below w.heap.size w w' := by
  have hn := new_any l A cp w hr hl hv
  obtain ⟨E, hE⟩ : ∃ E, errNew l = E := ⟨_, rfl⟩
  rw [hE] at hn h
  clear hr hv hE
  obtain ⟨k, hk⟩ : ∃ k, l.length = k := ⟨_, rfl⟩
  rw [hk] at hn h ⊢
  clear hk
  rcases h with h | ⟨rfl, h⟩
  · rw [if_neg h] at hn
    have hne : (E != 0) = true := by simp [h]
    have HN := Lib.hid hn; clear hn
    have H := Lib.hid h; clear h
    go_enter Try.func3, Try.ntmps3
    go_wp2_with fail
    refine HN.out.mono ?_
    rintro e w1 ⟨rfl, _, hb1⟩
    go_wp2_with fail
    refine (alive8_any _).mono ?_
    rintro e w2 ⟨rfl, hb2⟩
    go_wp2
    go_ret
    exact ⟨rfl, hb1.trans (hb2.mono hb1.size)⟩
  · rw [if_pos rfl] at hn
    have HN := Lib.hid hn; clear hn
    rcases h with h | ⟨h1, h⟩ | ⟨h1, h2, h⟩ | ⟨h1, h2, h3, h⟩ | ⟨h1, h2, h3, h4, h⟩ | ⟨h1, h2, h3, h4, h5, h⟩ | ⟨h1, h2, h3, h4, h5, h6, h⟩
    all_goals
      go_enter Try.func3, Try.ntmps3
      go_wp2_with fail
      refine HN.out.mono ?_
      rintro e w1 ⟨rfl, _, hb1⟩
      go_wp2_with fail
      refine (alive8_any _).mono ?_
      rintro e w2 ⟨rfl, hb2⟩
      go_wp2
      go_ret
      exact ⟨rfl, hb1.trans (hb2.mono hb1.size)⟩

set_option maxHeartbeats 4000000 in
set_option maxRecDepth 100000 in
theorem goes_good (l : List Int) (A : Option Addr) (cp : Nat) (day : Int) (n m : Nat) (w : World) (hr : Reads w w.heap.size 1 A l.length (ints l)) (hv : ∀ v ∈ l, -9223372036854775808 ≤ v ∧ v ≤ 9223372036854775807)
    (hE : errNew l = 0) (h1 : l.length ≤ 300) (h2 : 0 ≤ day) (h3 : day ≤ 900000) (h4 : 1 ≤ n) (h5 : n ≤ 60) (h6 : 1 ≤ m) (h7 : m ≤ 60) :
    Calls Try.prog 3 #[.slice A l.length cp, .int .i64 day, .int .i64 n, .int .i64 m] w fun e w' => e = .returned (.bool true) ∧ Below w.heap.size w w' := by
  have hn := new_any l A cp w hr (by omega) hv
  rw [hE, if_pos rfl] at hn
  obtain ⟨x, y, px, py, p1, p2, p3, p4, p5, p6, p7, p8, p9, p10⟩ := Dy.goes (B := isB (setD l)) (l := l) (isB_setD l) h1 h2 h3 h4 h5 h6 h7
  obtain ⟨k, hk⟩ : ∃ k, l.length = k := ⟨_, rfl⟩
  rw [hk] at hn h1 ⊢
  generalize setD l = D at *
  clear hr hv hE hk
  have HN := Lib.hid hn; clear hn
  have PX := Lib.hid px; have PY := Lib.hid py; have P3 := Lib.hid p3; have P4 := Lib.hid p4; have P7 := Lib.hid p7; have P8 := Lib.hid p8; have P9 := Lib.hid p9; have P10 := Lib.hid p10
  clear px py p3 p4 p7 p8 p9 p10
  have b1 : decide (300 < k) = false := by simp; omega
  have b2 : decide (day < 0) = false := by simp; omega
  have b3 : decide (900000 < day) = false := by simp; omega
  have b4 : decide ((n : Int) < 1) = false := by simp; omega
  have b5 : decide (60 < n) = false := by simp; omega
  have b6 : decide ((m : Int) < 1) = false := by simp; omega
  have b7 : decide (60 < m) = false := by simp; omega
  go_enter Try.func3, Try.ntmps3
  go_wp2_with fail
  refine HN.out.mono ?_
  obtain ⟨c, hc⟩ : ∃ c, w.heap.size = c := ⟨_, rfl⟩
  rw [hc]
  rintro e w1 ⟨rfl, hok, hb1⟩
  have H1 := Lib.hid (hok rfl); clear hok
  have HB1 := Lib.hid hb1; clear hb1
  have hcs := HB1.out.size
  rw [hc] at hcs
  have Hc := Lib.hid hc; clear hc
  go_wp2_with fail
  refine (next_any c D day (by omega) (by omega) w1 H1.out).mono ?_
  rw [PX.out]
  rintro e w2 ⟨rfl, hb2⟩
  have H2 := Lib.hid (H1.out.below hb2)
  have HB2 := Lib.hid (HB1.out.trans (hb2.mono hcs))
  have hcs2 := Nat.le_trans hcs hb2.size
  clear hb2
  go_wp2_with fail
  refine (is_any c D x (by omega) (by omega) w2 H2.out).mono ?_
  rw [P3.out]
  rintro e w3 ⟨rfl, hb3⟩
  have H3 := Lib.hid (H2.out.below hb3)
  have HB3 := Lib.hid (HB2.out.trans (hb3.mono hcs2))
  have hcs3 := Nat.le_trans hcs2 hb3.size
  clear hb3 b1 b2 b3 b4 b5 b6 b7
  go_wp2
  go_loopw [12] (fun i wr => ∃ d : Int, i = .int .i64 d ∧ day < d ∧ d ≤ x ∧ Hid (CalAt c D wr) ∧ Hid (Below c w wr) ∧ c ≤ wr.heap.size) (fun i _ => (x - intOf i).toNat)
  case atStart => exact ⟨day + 1, rfl, by omega, by omega, H3.out, HB3.out, hcs3⟩
  case round =>
    obtain ⟨d, rfl, hd1, hd2, HCr, HBr, hcr⟩ := hrel
    by_cases hdx : d < x
    · have hf := P4.out d hd1 hdx
      have hi := is_any c D d (by omega) (by omega) wr HCr.out
      rw [hf] at hi
      have HI := Lib.hid hi; clear hi hf
      go_wp2_with (go_at_call 10; refine HI.out.mono ?_; rintro e w4 ⟨rfl, hb4⟩)
      go_roundw
      case rel => exact ⟨d + 1, rfl, by omega, by omega, HCr.out.below hb4, HBr.out.trans (hb4.mono hcr), Nat.le_trans hcr hb4.size⟩
      case measure => simp [intOf]; omega
    · go_wp2_with fail
      refine (add_any c D day n (by omega) (by omega) (by omega) wr HCr.out).mono ?_
      rw [PY.out]
      rintro e w4 ⟨rfl, hb4⟩
      have H4 := Lib.hid (HCr.out.below hb4)
      have HB4 := Lib.hid (HBr.out.trans (hb4.mono hcr))
      have hcs4 := Nat.le_trans hcr hb4.size
      clear hb4
      go_wp2_with fail
      refine (alive8_any _).mono ?_
      rintro e w5 ⟨rfl, hb5⟩
      have H5 := Lib.hid (H4.out.below hb5)
      have HB5 := Lib.hid (HB4.out.trans (hb5.mono hcs4))
      have hcs5 := Nat.le_trans hcs4 hb5.size
      clear hb5
      go_wp2_with fail
      refine (days_any c D day x (by omega) (by omega) (by omega) (by omega) w5 H5.out).mono ?_
      rw [P7.out]
      rintro e w6 ⟨rfl, hb6⟩
      have H6 := Lib.hid (H5.out.below hb6)
      have HB6 := Lib.hid (HB5.out.trans (hb6.mono hcs5))
      have hcs6 := Nat.le_trans hcs5 hb6.size
      clear hb6
      go_wp2_with fail
      refine (days_any c D day y (by omega) (by omega) (by omega) (by omega) w6 H6.out).mono ?_
      rw [P8.out]
      rintro e w7 ⟨rfl, hb7⟩
      have H7 := Lib.hid (H6.out.below hb7)
      have HB7 := Lib.hid (HB6.out.trans (hb7.mono hcs6))
      have hcs7 := Nat.le_trans hcs6 hb7.size
      clear hb7
      go_wp2_with fail
      refine (add_any c D y m (by omega) (by omega) (by omega) w7 H7.out).mono ?_
      obtain ⟨t, ht⟩ : ∃ t, Dy.add (isB D) m y = t := ⟨_, rfl⟩
      have HT := Lib.hid (P9.out.symm.trans ht)
      rw [ht]
      clear ht
      rintro e w8 ⟨rfl, hb8⟩
      have H8 := Lib.hid (H7.out.below hb8)
      have HB8 := Lib.hid (HB7.out.trans (hb8.mono hcs7))
      have hcs8 := Nat.le_trans hcs7 hb8.size
      clear hb8
      go_wp2_with fail
      rw [show (n : Int) + (m : Int) = ((n + m : Nat) : Int) from by omega]
      refine (add_any c D day (n + m) (by omega) (by omega) (by omega) w8 H8.out).mono ?_
      rw [HT.out]
      rintro e w9 ⟨rfl, hb9⟩
      have H9 := Lib.hid (H8.out.below hb9)
      have HB9 := Lib.hid (HB8.out.trans (hb9.mono hcs8))
      have hcs9 := Nat.le_trans hcs8 hb9.size
      clear hb9
      go_wp2_with fail
      refine (days_any c D day y (by omega) (by omega) (by omega) (by omega) w9 H9.out).mono ?_
      have q10 := P10.out
      rw [P8.out] at q10
      rw [P8.out]
      rintro e w10 ⟨rfl, hb10⟩
      have H10 := Lib.hid (H9.out.below hb10)
      have HB10 := Lib.hid (HB9.out.trans (hb10.mono hcs9))
      have hcs10 := Nat.le_trans hcs9 hb10.size
      clear hb10
      obtain ⟨u, hu⟩ : ∃ u, Dy.days (isB D) y (y + m) = u := ⟨_, rfl⟩
      rw [hu] at q10
      have HU := Lib.hid hu; clear hu
      have hub : 0 ≤ u ∧ u ≤ 2000000 := by
        have := Dy.cntF_nonneg (isB D) (min (y + (m : Int)) 1000000 - max y (-1)).toNat (max y (-1))
        rw [← HU.out]; unfold Dy.days; omega
      have Q10 := Lib.hid q10; clear q10
      go_wp2_with fail
      refine (days_any c D y (y + m) (by omega) (by omega) (by omega) (by omega) w10 H10.out).mono ?_
      rw [HU.out]
      rintro e w11 ⟨rfl, hb11⟩
      have H11 := Lib.hid (H10.out.below hb11)
      have HB11 := Lib.hid (HB10.out.trans (hb11.mono hcs10))
      have hcs11 := Nat.le_trans hcs10 hb11.size
      clear hb11
      go_wp2_with fail
      refine (days_any c D day (y + m) (by omega) (by omega) (by omega) (by omega) w11 H11.out).mono ?_
      rw [← Q10.out]
      rintro e w12 ⟨rfl, hb12⟩
      go_wp2
      go_ret
      refine ⟨rfl, ?_⟩
      rw [Hc.out]
      exact HB11.out.trans (hb12.mono hcs11)

theorem goes_walk (l : List Int) (A : Option Addr) (cp : Nat) (day n m : Int) (w : World) (hr : Reads w w.heap.size 1 A l.length (ints l)) (hl : l.length ≤ 9223372036854775807) (hv : ∀ v ∈ l, -9223372036854775808 ≤ v ∧ v ≤ 9223372036854775807) :
    Calls Try.prog 3 #[.slice A l.length cp, .int .i64 day, .int .i64 n, .int .i64 m] w fun e w' => e = .returned (.bool true) ∧ Below w.heap.size w w' := by
  by_cases h0 : errNew l = 0
  rotate_left
  · exact goes_bad l A cp day n m w hr hl hv (.inl h0)
  by_cases h1 : l.length ≤ 300
  rotate_left
  · exact goes_bad l A cp day n m w hr hl hv (.inr ⟨h0, .inl (by omega)⟩)
  by_cases h2 : 0 ≤ day
  rotate_left
  · exact goes_bad l A cp day n m w hr hl hv (.inr ⟨h0, .inr (.inl ⟨h1, by omega⟩)⟩)
  by_cases h3 : day ≤ 900000
  rotate_left
  · exact goes_bad l A cp day n m w hr hl hv (.inr ⟨h0, .inr (.inr (.inl ⟨h1, h2, by omega⟩))⟩)
  by_cases h4 : 1 ≤ n
  rotate_left
  · exact goes_bad l A cp day n m w hr hl hv (.inr ⟨h0, .inr (.inr (.inr (.inl ⟨h1, h2, h3, by omega⟩)))⟩)
  by_cases h5 : n ≤ 60
  rotate_left
  · exact goes_bad l A cp day n m w hr hl hv (.inr ⟨h0, .inr (.inr (.inr (.inr (.inl ⟨h1, h2, h3, h4, by omega⟩))))⟩)
  by_cases h6 : 1 ≤ m
  rotate_left
  · exact goes_bad l A cp day n m w hr hl hv (.inr ⟨h0, .inr (.inr (.inr (.inr (.inr (.inl ⟨h1, h2, h3, h4, h5, by omega⟩)))))⟩)
  by_cases h7 : m ≤ 60
  rotate_left
  · exact goes_bad l A cp day n m w hr hl hv (.inr ⟨h0, .inr (.inr (.inr (.inr (.inr (.inr ⟨h1, h2, h3, h4, h5, h6, by omega⟩)))))⟩)
  obtain ⟨n', rfl⟩ : ∃ n' : Nat, n = n' := ⟨n.toNat, by omega⟩
  obtain ⟨m', rfl⟩ : ∃ m' : Nat, m = m' := ⟨m.toNat, by omega⟩
  exact goes_good l A cp day n' m' w hr hv h0 h1 h2 h3 (by omega) (by omega) (by omega) (by omega)
end Go.Proofs.Ythnhdcfhlokalaa
