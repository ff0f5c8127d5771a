/-
  The walk of InstRights: a right term is right; a wrong one is refused by its error.
  Conditions: the caller's memory stays.
-/
import Derived.Test.YtkcecijepbceiaaRightsA
namespace Go.Proofs.Ytkcecijepbceiaa
open Go.RowKit Go.Maps Go.Shelf
attribute [local go_sem ↓] Go.wp_at_zero Go.wp_at_succ
set_option maxRecDepth 100000

theorem join5 {n : Nat} {G : Prop} {F : Nat → Nat → Nat → Nat → Nat → Prop}
    (tree : (∀ q0 q1 q2 q3 q4 : Nat, ((n ≤ q0 ∧ q0 < n + 5) ∧ (n ≤ q1 ∧ q1 < n + 5) ∧ (n ≤ q2 ∧ q2 < n + 5) ∧ (n ≤ q3 ∧ q3 < n + 5) ∧ (n ≤ q4 ∧ q4 < n + 5)) ∧ (q0 ≠ q1 ∧ q0 ≠ q2 ∧ q0 ≠ q3 ∧ q0 ≠ q4 ∧ q1 ≠ q2 ∧ q1 ≠ q3 ∧ q1 ≠ q4 ∧ q2 ≠ q3 ∧ q2 ≠ q4 ∧ q3 ≠ q4) → F q0 q1 q2 q3 q4) → G)
    (fin : ∀ q0 q1 q2 q3 q4 : Nat, ((n ≤ q0 ∧ q0 < n + 5) ∧ (n ≤ q1 ∧ q1 < n + 5) ∧ (n ≤ q2 ∧ q2 < n + 5) ∧ (n ≤ q3 ∧ q3 < n + 5) ∧ (n ≤ q4 ∧ q4 < n + 5)) ∧ (q0 ≠ q1 ∧ q0 ≠ q2 ∧ q0 ≠ q3 ∧ q0 ≠ q4 ∧ q1 ≠ q2 ∧ q1 ≠ q3 ∧ q1 ≠ q4 ∧ q2 ≠ q3 ∧ q2 ≠ q4 ∧ q3 ≠ q4) → F q0 q1 q2 q3 q4) : G := tree fin
theorem fits_of {t : Trm} (h : ∀ s ∈ t.texts, s.size ≤ 100) (hn : ∀ v ∈ t.nums, In64 v) : t.Fits := ⟨fun s hs => by have := h s hs; omega, hn⟩
theorem nums_of {qty am dy : Int} (hq : In64 qty) (hm : In64 am) (hd : In64 dy) : ∀ v ∈ [qty, am, dy, 0], In64 v := by
  intro v hv
  simp only [List.mem_cons, List.not_mem_nil, or_false] at hv
  rcases hv with rfl | rfl | rfl | rfl
  · exact hq
  · exact hm
  · exact hd
  · exact ⟨by decide, by decide⟩
theorem fits_R {qty am dy : Int} (hq : In64 qty) (hm : In64 am) (hd : In64 dy) : (tR qty am dy).Fits := fits_of (show ∀ s ∈ ([⟨#[80]⟩, ⟨#[80, 65]⟩, ⟨#[80, 66]⟩, ⟨#[81]⟩, ⟨#[89]⟩, ⟨#[69, 85, 82]⟩, ⟨#[]⟩] : List ByteArray), s.size ≤ 100 from by decide) (nums_of hq hm hd)
theorem fits_Ra {qty am dy : Int} (hq : In64 qty) (hm : In64 am) (hd : In64 dy) : (tRa qty am dy).Fits := fits_of (show ∀ s ∈ ([⟨#[80]⟩, ⟨#[81, 65]⟩, ⟨#[80, 66]⟩, ⟨#[81]⟩, ⟨#[89]⟩, ⟨#[69, 85, 82]⟩, ⟨#[]⟩] : List ByteArray), s.size ≤ 100 from by decide) (nums_of hq hm hd)
theorem fits_Rb {qty am dy : Int} (hq : In64 qty) (hm : In64 am) (hd : In64 dy) : (tRb qty am dy).Fits := fits_of (show ∀ s ∈ ([⟨#[80]⟩, ⟨#[80, 65]⟩, ⟨#[80, 66]⟩, ⟨#[80]⟩, ⟨#[89]⟩, ⟨#[69, 85, 82]⟩, ⟨#[]⟩] : List ByteArray), s.size ≤ 100 from by decide) (nums_of hq hm hd)
theorem fits_Rc {qty am dy : Int} (hq : In64 qty) (hm : In64 am) (hd : In64 dy) : (tRc qty am dy).Fits := fits_of (show ∀ s ∈ ([⟨#[80]⟩, ⟨#[80, 65]⟩, ⟨#[80, 66]⟩, ⟨#[81]⟩, ⟨#[69, 85, 82]⟩, ⟨#[69, 85, 82]⟩, ⟨#[]⟩] : List ByteArray), s.size ≤ 100 from by decide) (nums_of hq hm hd)
theorem fits_Rd {qty am dy : Int} (hq : In64 qty) (hm : In64 am) (hd : In64 dy) : (tRd qty am dy).Fits := fits_of (show ∀ s ∈ ([⟨#[80]⟩, ⟨#[80, 65]⟩, ⟨#[80, 66]⟩, ⟨#[81]⟩, ⟨#[89]⟩, ⟨#[71, 66, 80]⟩, ⟨#[]⟩] : List ByteArray), s.size ≤ 100 from by decide) (nums_of hq hm hd)
theorem fits_Rf {qty am dy : Int} (hq : In64 qty) (hm : In64 am) (hd : In64 dy) : (tRf qty am dy).Fits := fits_of (show ∀ s ∈ ([⟨#[80]⟩, ⟨#[80, 65]⟩, ⟨#[80, 66]⟩, ⟨#[66, 65, 78, 75]⟩, ⟨#[89]⟩, ⟨#[69, 85, 82]⟩, ⟨#[]⟩] : List ByteArray), s.size ≤ 100 from by decide) (nums_of hq hm hd)
set_option maxHeartbeats 40000000 in
theorem irights_walk (qty am dy : Int) (hq : In64 qty) (hm : In64 am) (hd : In64 dy) (w : World) :
    Calls Try.prog 9 #[.int .i64 qty, .int .i64 am, .int .i64 dy] w fun e w' => e = .returned (.bool true) ∧ Below w.heap.size w w' := by
  obtain ⟨hq1, hq2⟩ := hq
  obtain ⟨hm1, hm2⟩ := hm
  obtain ⟨hd1, hd2⟩ := hd
  have HQ : Hid (In64 qty) := ⟨hq1, hq2⟩
  have HM : Hid (In64 am) := ⟨hm1, hm2⟩
  have HD : Hid (In64 dy) := ⟨hd1, hd2⟩
  go_enter Try.func9, Try.ntmps9
  go_wp2_with fail
  refine (both_any w).mono ?_
  rintro e w1 ⟨r, x, rfl, hk, _, hb1, _, _, _⟩
  have HK1 := Lib.hid hk; have HB1 := Lib.hid hb1
  clear hk hb1
  obtain ⟨bt, HBT0⟩ : ∃ b, Hid (w1.heap.size = b) := ⟨_, rfl⟩
  obtain ⟨W2, HW2⟩ : ∃ W, Hid (w1.alloc (.cells #[.string ⟨#[80]⟩, .string ⟨#[80, 65]⟩, .string ⟨#[80, 66]⟩, .string ⟨#[81]⟩, .bool true, .string ⟨#[89]⟩, .string ⟨#[69, 85, 82]⟩, .string ⟨#[]⟩, .int .i64 qty, .int .i64 am, .int .i64 dy, .int .i64 0] 23) = W) := ⟨_, rfl⟩
  have HY2 : Hid (W2.heap[bt]? = some (.cells #[.string ⟨#[80]⟩, .string ⟨#[80, 65]⟩, .string ⟨#[80, 66]⟩, .string ⟨#[81]⟩, .bool true, .string ⟨#[89]⟩, .string ⟨#[69, 85, 82]⟩, .string ⟨#[]⟩, .int .i64 qty, .int .i64 am, .int .i64 dy, .int .i64 0] 23 (0, 0))) := by show _ = _; rw [← HW2.out, ← HBT0.out]; exact heap_alloc_new _ _
  have hb12 : Below w1.heap.size w1 W2 := by rw [← HW2.out]; exact (Below.refl _ _).alloc (Nat.le_refl _) _
  have hbt2 : bt < W2.heap.size := by rw [← HW2.out, ← HBT0.out]; simp
  have HK2 := Lib.hid (HK1.out.below hb12)
  have HB2 : Hid (Below w.heap.size w W2) := HB1.out.trans (hb12.mono HB1.out.size)
  clear hb12
  go_upto_region 5 with (fail)
  rw [HW2.out, HBT0.out]
  obtain ⟨ub, hub⟩ : ∃ b, ubB qty = b := ⟨_, rfl⟩
  have Hub := Lib.hid hub
  clear hub
  go_upto_region 5 with (fail)
  go_cut [11] (fun v wx => v = .bool ub ∧ W2 = wx)
  case first =>
    by_cases h1 : 20 ≤ qty
    · by_cases h2 : qty ≤ 1099511627776
      · have ht : qty.tmod 10 = qty % 10 := Int.tmod_eq_emod_of_nonneg (by omega)
        by_cases h3 : qty % 10 = 0
        · have h3b : (qty % 10 == 0) = true := by simp [h3]
          have hu : ub = true := by
            rw [← Hub.out]
            exact decide_eq_true (by omega)
          go_wp2
          go_meet
          exact ⟨by first | (rw [hu]; done) | (rw [hu]; rfl) | (rw [hu]; simp [*]), rfl⟩
        · have h3b : (qty % 10 == 0) = false := by simp [h3]
          have hu : ub = false := by
            rw [← Hub.out]
            exact decide_eq_false (by omega)
          go_wp2
          go_meet
          exact ⟨by first | (rw [hu]; done) | (rw [hu]; rfl) | (rw [hu]; simp [*]), rfl⟩
      · have h2b : decide (qty ≤ 1099511627776) = false := decide_eq_false h2
        have hu : ub = false := by
          rw [← Hub.out]
          exact decide_eq_false (by omega)
        go_wp2
        go_meet
        exact ⟨by first | (rw [hu]; done) | (rw [hu]; rfl) | (rw [hu]; simp [*]), rfl⟩
    · have h1b : decide (qty ≥ 20) = false := decide_eq_false h1
      have hu : ub = false := by
        rw [← Hub.out]
        exact decide_eq_false (by omega)
      go_wp2
      go_meet
      exact ⟨by first | (rw [hu]; done) | (rw [hu]; rfl) | (rw [hu]; simp [*]), rfl⟩
  case rest =>
  obtain ⟨rfl, rfl⟩ := hcut
  obtain ⟨gb, hgb⟩ : ∃ b, gbB am = b := ⟨_, rfl⟩
  have Hgb := Lib.hid hgb
  clear hgb
  go_upto_region 6 with (fail)
  go_cut [12] (fun v wx => v = .bool gb ∧ W2 = wx)
  case first =>
    by_cases h1 : 0 ≤ am
    · by_cases h2 : am ≤ 1125899906842624
      · have hu : gb = true := by
          rw [← Hgb.out]
          exact decide_eq_true (by omega)
        go_wp2
        go_meet
        exact ⟨by first | (rw [hu]; done) | (rw [hu]; rfl) | (rw [hu]; simp [*]), rfl⟩
      · have h2b : decide (am ≤ 1125899906842624) = false := decide_eq_false h2
        have hu : gb = false := by
          rw [← Hgb.out]
          exact decide_eq_false (by omega)
        go_wp2
        go_meet
        exact ⟨by first | (rw [hu]; done) | (rw [hu]; rfl) | (rw [hu]; simp [*]), rfl⟩
    · have h1b : decide (am ≥ 0) = false := decide_eq_false h1
      have hu : gb = false := by
        rw [← Hgb.out]
        exact decide_eq_false (by omega)
      go_wp2
      go_meet
      exact ⟨by first | (rw [hu]; done) | (rw [hu]; rfl) | (rw [hu]; simp [*]), rfl⟩
  case rest =>
  obtain ⟨rfl, rfl⟩ := hcut
  obtain ⟨wb, hwb⟩ : ∃ b, wbB dy = b := ⟨_, rfl⟩
  have Hwb := Lib.hid hwb
  clear hwb
  go_upto_region 7 with (fail)
  go_cut [13] (fun v wx => v = .bool wb ∧ W2 = wx)
  case first =>
    by_cases h1 : 0 ≤ dy
    · by_cases h2 : dy ≤ 1000000
      · have ht : dy.tmod 7 = dy % 7 := Int.tmod_eq_emod_of_nonneg h1
        by_cases h3 : dy % 7 < 5
        · have h3b : decide (dy % 7 < 5) = true := decide_eq_true h3
          have hu : wb = true := by
            rw [← Hwb.out]
            exact decide_eq_true (by omega)
          go_wp2
          go_meet
          exact ⟨by first | (rw [hu]; done) | (rw [hu]; rfl) | (rw [hu]; simp [*]), rfl⟩
        · have h3b : decide (dy % 7 < 5) = false := decide_eq_false h3
          have hu : wb = false := by
            rw [← Hwb.out]
            exact decide_eq_false (by omega)
          go_wp2
          go_meet
          exact ⟨by first | (rw [hu]; done) | (rw [hu]; rfl) | (rw [hu]; simp [*]), rfl⟩
      · have h2b : decide (dy ≤ 1000000) = false := decide_eq_false h2
        have hu : wb = false := by
          rw [← Hwb.out]
          exact decide_eq_false (by omega)
        go_wp2
        go_meet
        exact ⟨by first | (rw [hu]; done) | (rw [hu]; rfl) | (rw [hu]; simp [*]), rfl⟩
    · have h1b : decide (dy ≥ 0) = false := decide_eq_false h1
      have hu : wb = false := by
        rw [← Hwb.out]
        exact decide_eq_false (by omega)
      go_wp2
      go_meet
      exact ⟨by first | (rw [hu]; done) | (rw [hu]; rfl) | (rw [hu]; simp [*]), rfl⟩
  case rest =>
  obtain ⟨rfl, rfl⟩ := hcut
  obtain ⟨V, hV⟩ : ∃ V, chkC sw3 (tR qty am dy) 0 = V := ⟨_, rfl⟩
  have HVV := Lib.hid hV
  have CK : Hid (Calls Try.prog 34 #[.pointer (some ⟨r, 0, none⟩), .agg #[.string ⟨#[80]⟩, .string ⟨#[80, 65]⟩, .string ⟨#[80, 66]⟩, .string ⟨#[81]⟩, .bool true, .string ⟨#[89]⟩, .string ⟨#[69, 85, 82]⟩, .string ⟨#[]⟩, .int .i64 qty, .int .i64 am, .int .i64 dy, .int .i64 0], .int .i64 0] W2 fun e w' => e = .returned (.int .i64 V) ∧ Below W2.heap.size W2 w') := by
    show Calls _ _ _ _ _
    rw [← hV]
    exact check_any r sw3 sw3_ok sw_ne sw_unit (tR qty am dy) (fits_R HQ.out HM.out HD.out) 0 W2 HK2.out
  clear hV
  have y0 : W2.cell? ⟨bt, 0, none⟩ = some (.string ⟨#[80]⟩) := by rw [Lib.cell_of_heap HY2.out]; rfl
  have y1 : W2.cell? ⟨bt, 1, none⟩ = some (.string ⟨#[80, 65]⟩) := by rw [Lib.cell_of_heap HY2.out]; rfl
  have y2 : W2.cell? ⟨bt, 2, none⟩ = some (.string ⟨#[80, 66]⟩) := by rw [Lib.cell_of_heap HY2.out]; rfl
  have y3 : W2.cell? ⟨bt, 3, none⟩ = some (.string ⟨#[81]⟩) := by rw [Lib.cell_of_heap HY2.out]; rfl
  have y4 : W2.cell? ⟨bt, 4, none⟩ = some (.bool true) := by rw [Lib.cell_of_heap HY2.out]; rfl
  have y5 : W2.cell? ⟨bt, 5, none⟩ = some (.string ⟨#[89]⟩) := by rw [Lib.cell_of_heap HY2.out]; rfl
  have y6 : W2.cell? ⟨bt, 6, none⟩ = some (.string ⟨#[69, 85, 82]⟩) := by rw [Lib.cell_of_heap HY2.out]; rfl
  have y7 : W2.cell? ⟨bt, 7, none⟩ = some (.string ⟨#[]⟩) := by rw [Lib.cell_of_heap HY2.out]; rfl
  have y8 : W2.cell? ⟨bt, 8, none⟩ = some (.int .i64 qty) := by rw [Lib.cell_of_heap HY2.out]; rfl
  have y9 : W2.cell? ⟨bt, 9, none⟩ = some (.int .i64 am) := by rw [Lib.cell_of_heap HY2.out]; rfl
  have y10 : W2.cell? ⟨bt, 10, none⟩ = some (.int .i64 dy) := by rw [Lib.cell_of_heap HY2.out]; rfl
  have y11 : W2.cell? ⟨bt, 11, none⟩ = some (.int .i64 0) := by rw [Lib.cell_of_heap HY2.out]; rfl
  go_wp2_with fail
  clear y0 y1 y2 y3 y4 y5 y6 y7 y8 y9 y10 y11
  refine CK.out.mono ?_
  rintro e w3 ⟨rfl, hb3⟩
  have HK3 := Lib.hid (HK2.out.below hb3)
  have HB3 : Hid (Below w.heap.size w w3) := HB2.out.trans (hb3.mono HB2.out.size)
  have HY3 : Hid (w3.heap[bt]? = some (.cells (tcq qty am dy) 23 (0, 0))) := (hb3.block bt hbt2).trans HY2.out
  have hbt3 : bt < w3.heap.size := Nat.lt_of_lt_of_le hbt2 hb3.size
  clear hb3 CK
  go_upto_block 0 with (fail)
  go_cut [15] (fun v wx => v = .int .i64 V ∧ w3 = wx)
  case first =>
    cases ub
    · have hv : V = 33 := by rw [← HVV.out, right_main, Hub.out]; rfl
      go_wp2
      go_meet
      exact ⟨by first | (rw [hv]; done) | (rw [hv]; rfl), rfl⟩
    · cases gb
      · have hv : V = 1 := by rw [← HVV.out, right_main, Hub.out, Hgb.out]; rfl
        go_wp2
        go_meet
        exact ⟨by first | (rw [hv]; done) | (rw [hv]; rfl), rfl⟩
      · cases wb
        · have hv : V = 17 := by rw [← HVV.out, right_main, Hub.out, Hgb.out, Hwb.out]; rfl
          go_wp2
          go_meet
          exact ⟨by first | (rw [hv]; done) | (rw [hv]; rfl), rfl⟩
        · have hv : V = 0 := by rw [← HVV.out, right_main, Hub.out, Hgb.out, Hwb.out]; rfl
          go_wp2
          go_meet
          exact ⟨by first | (rw [hv]; done) | (rw [hv]; rfl), rfl⟩
  case rest =>
  obtain ⟨rfl, rfl⟩ := hcut
  have hvv : (V != V) = false := by simp
  go_upto_region 18 with (fail)
  clear hvv
  obtain ⟨n, hn⟩ : ∃ n, w3.heap.size = n := ⟨_, rfl⟩
  have HN := Lib.hid hn
  rw [hn] at hbt3
  go_cut [16, 17, 18, 19, 20] (fun p0 p1 p2 p3 p4 wx => ∃ q0 q1 q2 q3 q4 : Nat, p0 = .pointer (some ⟨q0, 0, none⟩) ∧ p1 = .pointer (some ⟨q1, 0, none⟩) ∧ p2 = .pointer (some ⟨q2, 0, none⟩) ∧ p3 = .pointer (some ⟨q3, 0, none⟩) ∧ p4 = .pointer (some ⟨q4, 0, none⟩) ∧ Hid (FinR n qty am dy q0 q1 q2 q3 q4 w3 wx))
  case first =>
    have hs0 : w3.drew.heap.size = n := hn
    clear hn
    have hb0 : Below n w3 w3.drew := by rw [← HN.out]; exact (Below.refl _ _).drew
    obtain ⟨A1, hA1⟩ : ∃ A, w3.drew.alloc (.cells #[.string ⟨#[]⟩, .string ⟨#[]⟩, .string ⟨#[]⟩, .string ⟨#[]⟩, .bool false, .string ⟨#[]⟩, .string ⟨#[]⟩, .string ⟨#[]⟩, .int .i64 0, .int .i64 0, .int .i64 0, .int .i64 0] 23) = A := ⟨_, rfl⟩
    have hs1 : A1.heap.size = n + 1 := by rw [← hA1]; simp [hs0]
    have hb1 : Below n w3 A1 := by rw [← hA1]; exact hb0.alloc (by omega) _
    have HS1 : Hid (A1.heap[bt]? = some (.cells (tcq qty am dy) 23 (0, 0))) := (hb1.block bt hbt3).trans HY3.out
    obtain ⟨A2, hA2⟩ : ∃ A, A1.alloc (.cells #[.string ⟨#[]⟩, .string ⟨#[]⟩, .string ⟨#[]⟩, .string ⟨#[]⟩, .bool false, .string ⟨#[]⟩, .string ⟨#[]⟩, .string ⟨#[]⟩, .int .i64 0, .int .i64 0, .int .i64 0, .int .i64 0] 23) = A := ⟨_, rfl⟩
    have hs2 : A2.heap.size = n + 2 := by rw [← hA2]; simp [hs1]
    have hb2 : Below n w3 A2 := by rw [← hA2]; exact hb1.alloc (by omega) _
    have HS2 : Hid (A2.heap[bt]? = some (.cells (tcq qty am dy) 23 (0, 0))) := (hb2.block bt hbt3).trans HY3.out
    obtain ⟨A3, hA3⟩ : ∃ A, A2.alloc (.cells #[.string ⟨#[]⟩, .string ⟨#[]⟩, .string ⟨#[]⟩, .string ⟨#[]⟩, .bool false, .string ⟨#[]⟩, .string ⟨#[]⟩, .string ⟨#[]⟩, .int .i64 0, .int .i64 0, .int .i64 0, .int .i64 0] 23) = A := ⟨_, rfl⟩
    have hs3 : A3.heap.size = n + 3 := by rw [← hA3]; simp [hs2]
    have hb3 : Below n w3 A3 := by rw [← hA3]; exact hb2.alloc (by omega) _
    have HS3 : Hid (A3.heap[bt]? = some (.cells (tcq qty am dy) 23 (0, 0))) := (hb3.block bt hbt3).trans HY3.out
    obtain ⟨A4, hA4⟩ : ∃ A, A3.alloc (.cells #[.string ⟨#[]⟩, .string ⟨#[]⟩, .string ⟨#[]⟩, .string ⟨#[]⟩, .bool false, .string ⟨#[]⟩, .string ⟨#[]⟩, .string ⟨#[]⟩, .int .i64 0, .int .i64 0, .int .i64 0, .int .i64 0] 23) = A := ⟨_, rfl⟩
    have hs4 : A4.heap.size = n + 4 := by rw [← hA4]; simp [hs3]
    have hb4 : Below n w3 A4 := by rw [← hA4]; exact hb3.alloc (by omega) _
    have HS4 : Hid (A4.heap[bt]? = some (.cells (tcq qty am dy) 23 (0, 0))) := (hb4.block bt hbt3).trans HY3.out
    obtain ⟨A5, hA5⟩ : ∃ A, A4.alloc (.cells #[.string ⟨#[]⟩, .string ⟨#[]⟩, .string ⟨#[]⟩, .string ⟨#[]⟩, .bool false, .string ⟨#[]⟩, .string ⟨#[]⟩, .string ⟨#[]⟩, .int .i64 0, .int .i64 0, .int .i64 0, .int .i64 0] 23) = A := ⟨_, rfl⟩
    have hs5 : A5.heap.size = n + 5 := by rw [← hA5]; simp [hs4]
    have hb5 : Below n w3 A5 := by rw [← hA5]; exact hb4.alloc (by omega) _
    have HS5 : Hid (A5.heap[bt]? = some (.cells (tcq qty am dy) 23 (0, 0))) := (hb5.block bt hbt3).trans HY3.out
    have HZ : Hid (∀ q, n ≤ q → q < n + 5 → A5.heap[q]? = some (.cells tz 23 (0, 0))) := by
      have e0 : A1.heap[n]? = some (.cells tz 23 (0, 0)) := by rw [← hA1, show n = w3.drew.heap.size from hs0.symm]; exact heap_alloc_new _ _
      have e0_2 : A2.heap[n]? = some (.cells tz 23 (0, 0)) := by rw [← hA2]; exact (Below.heap_alloc _ _ _ (by omega)).trans e0
      have e0_3 : A3.heap[n]? = some (.cells tz 23 (0, 0)) := by rw [← hA3]; exact (Below.heap_alloc _ _ _ (by omega)).trans e0_2
      have e0_4 : A4.heap[n]? = some (.cells tz 23 (0, 0)) := by rw [← hA4]; exact (Below.heap_alloc _ _ _ (by omega)).trans e0_3
      have e0_5 : A5.heap[n]? = some (.cells tz 23 (0, 0)) := by rw [← hA5]; exact (Below.heap_alloc _ _ _ (by omega)).trans e0_4
      have e1 : A2.heap[n + 1]? = some (.cells tz 23 (0, 0)) := by rw [← hA2, show n + 1 = A1.heap.size from hs1.symm]; exact heap_alloc_new _ _
      have e1_3 : A3.heap[n + 1]? = some (.cells tz 23 (0, 0)) := by rw [← hA3]; exact (Below.heap_alloc _ _ _ (by omega)).trans e1
      have e1_4 : A4.heap[n + 1]? = some (.cells tz 23 (0, 0)) := by rw [← hA4]; exact (Below.heap_alloc _ _ _ (by omega)).trans e1_3
      have e1_5 : A5.heap[n + 1]? = some (.cells tz 23 (0, 0)) := by rw [← hA5]; exact (Below.heap_alloc _ _ _ (by omega)).trans e1_4
      have e2 : A3.heap[n + 2]? = some (.cells tz 23 (0, 0)) := by rw [← hA3, show n + 2 = A2.heap.size from hs2.symm]; exact heap_alloc_new _ _
      have e2_4 : A4.heap[n + 2]? = some (.cells tz 23 (0, 0)) := by rw [← hA4]; exact (Below.heap_alloc _ _ _ (by omega)).trans e2
      have e2_5 : A5.heap[n + 2]? = some (.cells tz 23 (0, 0)) := by rw [← hA5]; exact (Below.heap_alloc _ _ _ (by omega)).trans e2_4
      have e3 : A4.heap[n + 3]? = some (.cells tz 23 (0, 0)) := by rw [← hA4, show n + 3 = A3.heap.size from hs3.symm]; exact heap_alloc_new _ _
      have e3_5 : A5.heap[n + 3]? = some (.cells tz 23 (0, 0)) := by rw [← hA5]; exact (Below.heap_alloc _ _ _ (by omega)).trans e3
      have e4 : A5.heap[n + 4]? = some (.cells tz 23 (0, 0)) := by rw [← hA5, show n + 4 = A4.heap.size from hs4.symm]; exact heap_alloc_new _ _
      intro q h1 h2
      rcases (show q = n ∨ q = n + 1 ∨ q = n + 2 ∨ q = n + 3 ∨ q = n + 4 by omega) with rfl | rfl | rfl | rfl | rfl
      · exact e0_5
      · exact e1_5
      · exact e2_5
      · exact e3_5
      · exact e4
    have HB5 := Lib.hid hb5
    clear hb0 hb1 hb2 hb3 hb4 hb5
    obtain ⟨m0, hn0⟩ : ∃ m, w3.drew.heap.size = m := ⟨_, rfl⟩
    have HM0 : Hid (m0 = n) := by show _ = _; rw [← hn0]; exact hs0
    obtain ⟨m1, hn1⟩ : ∃ m, A1.heap.size = m := ⟨_, rfl⟩
    have HM1 : Hid (m1 = n + 1) := by show _ = _; rw [← hn1]; exact hs1
    obtain ⟨m2, hn2⟩ : ∃ m, A2.heap.size = m := ⟨_, rfl⟩
    have HM2 : Hid (m2 = n + 2) := by show _ = _; rw [← hn2]; exact hs2
    obtain ⟨m3, hn3⟩ : ∃ m, A3.heap.size = m := ⟨_, rfl⟩
    have HM3 : Hid (m3 = n + 3) := by show _ = _; rw [← hn3]; exact hs3
    obtain ⟨m4, hn4⟩ : ∃ m, A4.heap.size = m := ⟨_, rfl⟩
    have HM4 : Hid (m4 = n + 4) := by show _ = _; rw [← hn4]; exact hs4
    clear hs0 hs1 hs2 hs3 hs4 hs5
    refine wp_region_held_drew (S := fun X => X.heap[bt]? = some (.cells (tcq qty am dy) 23 (0, 0))) (by kernel_rfl) (show (w3.drew).heap[bt]? = _ from HY3.out) (fun hHeld => ?_)
    refine wpAnyH_take (i := 0) (v := .agg (tcq qty am dy)) rfl (by kernel_rfl) (by kernel_rfl) (by kernel_rfl) (fun _ _ _ h => h) (yields_row8 (by rfl) 23 _ rfl bt rfl 23 (tcq qty am dy) _ (fun _ h => h) Try.underlying23 rfl size_term8) (by assumption) ?_
    try simp only [Act.put, List.setIfInBounds_toArray, List.set_cons_zero, List.set_cons_succ, List.getElem_toArray, List.getElem_cons_zero]
    refine wpAnyH_take (i := 1) (v := .agg (tcq qty am dy)) rfl (by kernel_rfl) (by kernel_rfl) (by kernel_rfl) (fun _ _ _ h => h) (yields_row8 (by rfl) 23 _ rfl bt rfl 23 (tcq qty am dy) _ (fun _ h => h) Try.underlying23 rfl size_term8) (by assumption) ?_
    try simp only [Act.put, List.setIfInBounds_toArray, List.set_cons_zero, List.set_cons_succ, List.getElem_toArray, List.getElem_cons_succ, List.getElem_cons_zero]
    refine wpAnyH_take (i := 2) (v := .agg (tcq qty am dy)) rfl (by kernel_rfl) (by kernel_rfl) (by kernel_rfl) (fun _ _ _ h => h) (yields_row8 (by rfl) 23 _ rfl bt rfl 23 (tcq qty am dy) _ (fun _ h => h) Try.underlying23 rfl size_term8) (by assumption) ?_
    try simp only [Act.put, List.setIfInBounds_toArray, List.set_cons_zero, List.set_cons_succ, List.getElem_toArray, List.getElem_cons_succ, List.getElem_cons_zero]
    refine wpAnyH_take (i := 3) (v := .agg (tcq qty am dy)) rfl (by kernel_rfl) (by kernel_rfl) (by kernel_rfl) (fun _ _ _ h => h) (yields_row8 (by rfl) 23 _ rfl bt rfl 23 (tcq qty am dy) _ (fun _ h => h) Try.underlying23 rfl size_term8) (by assumption) ?_
    try simp only [Act.put, List.setIfInBounds_toArray, List.set_cons_zero, List.set_cons_succ, List.getElem_toArray, List.getElem_cons_succ, List.getElem_cons_zero]
    refine wpAnyH_take (i := 4) (v := .agg (tcq qty am dy)) rfl (by kernel_rfl) (by kernel_rfl) (by kernel_rfl) (fun _ _ _ h => h) (yields_row8 (by rfl) 23 _ rfl bt rfl 23 (tcq qty am dy) _ (fun _ h => h) Try.underlying23 rfl size_term8) (by assumption) ?_
    try simp only [Act.put, List.setIfInBounds_toArray, List.set_cons_zero, List.set_cons_succ, List.getElem_toArray, List.getElem_cons_succ, List.getElem_cons_zero]
    refine' join5 (n := n) (fun FIN => ?_) ?_
    rotate_left
    · refine wpAnyH_ready (rs := [5, 6, 7, 8, 9]) (by kernel_rfl) (by simp) (AllReadyH.cons rfl (fun K hK => ?_) (AllReadyH.cons rfl (fun K hK => ?_) (AllReadyH.cons rfl (fun K hK => ?_) (AllReadyH.cons rfl (fun K hK => ?_) (AllReadyH.cons rfl (fun K hK => ?_) (AllReadyH.nil))))))
      · try simp only [List.getElem_toArray, List.getElem_cons_succ, List.getElem_cons_zero]
        go_simp
        refine hK.out _ _ (HS1.out) (fun hHeld => ?_)
        clear hK K
        try simp only [Act.put, List.setIfInBounds_toArray, List.set_cons_zero, List.set_cons_succ, List.getElem_toArray, List.getElem_cons_succ, List.getElem_cons_zero]
        refine wpAnyH_ready (rs := [6, 7, 8, 9]) (by kernel_rfl) (by simp) (AllReadyH.cons rfl (fun K hK => ?_) (AllReadyH.cons rfl (fun K hK => ?_) (AllReadyH.cons rfl (fun K hK => ?_) (AllReadyH.cons rfl (fun K hK => ?_) (AllReadyH.nil)))))
        · try simp only [List.getElem_toArray, List.getElem_cons_succ, List.getElem_cons_zero]
          go_simp
          refine hK.out _ _ (HS2.out) (fun hHeld => ?_)
          clear hK K
          try simp only [Act.put, List.setIfInBounds_toArray, List.set_cons_zero, List.set_cons_succ, List.getElem_toArray, List.getElem_cons_succ, List.getElem_cons_zero]
          refine wpAnyH_ready (rs := [7, 8, 9]) (by kernel_rfl) (by simp) (AllReadyH.cons rfl (fun K hK => ?_) (AllReadyH.cons rfl (fun K hK => ?_) (AllReadyH.cons rfl (fun K hK => ?_) (AllReadyH.nil))))
          · try simp only [List.getElem_toArray, List.getElem_cons_succ, List.getElem_cons_zero]
            go_simp
            refine hK.out _ _ (HS3.out) (fun hHeld => ?_)
            clear hK K
            try simp only [Act.put, List.setIfInBounds_toArray, List.set_cons_zero, List.set_cons_succ, List.getElem_toArray, List.getElem_cons_succ, List.getElem_cons_zero]
            refine wpAnyH_ready (rs := [8, 9]) (by kernel_rfl) (by simp) (AllReadyH.cons rfl (fun K hK => ?_) (AllReadyH.cons rfl (fun K hK => ?_) (AllReadyH.nil)))
            · try simp only [List.getElem_toArray, List.getElem_cons_succ, List.getElem_cons_zero]
              go_simp
              refine hK.out _ _ (HS4.out) (fun hHeld => ?_)
              clear hK K
              try simp only [Act.put, List.setIfInBounds_toArray, List.set_cons_zero, List.set_cons_succ, List.getElem_toArray, List.getElem_cons_succ, List.getElem_cons_zero]
              refine wpAnyH_ready (rs := [9]) (by kernel_rfl) (by simp) (AllReadyH.cons rfl (fun K hK => ?_) (AllReadyH.nil))
              try simp only [List.getElem_toArray, List.getElem_cons_succ, List.getElem_cons_zero]
              go_simp
              refine hK.out _ _ (HS5.out) (fun hHeld => ?_)
              clear hK K
              try simp only [Act.put, List.setIfInBounds_toArray, List.set_cons_zero, List.set_cons_succ, List.getElem_toArray, List.getElem_cons_succ, List.getElem_cons_zero]
              have hh := FIN m0 m1 m2 m3 m4 (by have e0 := HM0.out; have e1 := HM1.out; have e2 := HM2.out; have e3 := HM3.out; have e4 := HM4.out; exact ⟨by omega, by omega⟩)
              apply hh
            · try simp only [List.getElem_toArray, List.getElem_cons_succ, List.getElem_cons_zero]
              go_simp
              refine hK.out _ _ (HS4.out) (fun hHeld => ?_)
              clear hK K
              try simp only [Act.put, List.setIfInBounds_toArray, List.set_cons_zero, List.set_cons_succ, List.getElem_toArray, List.getElem_cons_succ, List.getElem_cons_zero]
              refine wpAnyH_ready (rs := [8]) (by kernel_rfl) (by simp) (AllReadyH.cons rfl (fun K hK => ?_) (AllReadyH.nil))
              try simp only [List.getElem_toArray, List.getElem_cons_succ, List.getElem_cons_zero]
              go_simp
              refine hK.out _ _ (HS5.out) (fun hHeld => ?_)
              clear hK K
              try simp only [Act.put, List.setIfInBounds_toArray, List.set_cons_zero, List.set_cons_succ, List.getElem_toArray, List.getElem_cons_succ, List.getElem_cons_zero]
              have hh := FIN m0 m1 m2 m4 m3 (by have e0 := HM0.out; have e1 := HM1.out; have e2 := HM2.out; have e3 := HM3.out; have e4 := HM4.out; exact ⟨by omega, by omega⟩)
              apply hh
          · try simp only [List.getElem_toArray, List.getElem_cons_succ, List.getElem_cons_zero]
            go_simp
            refine hK.out _ _ (HS3.out) (fun hHeld => ?_)
            clear hK K
            try simp only [Act.put, List.setIfInBounds_toArray, List.set_cons_zero, List.set_cons_succ, List.getElem_toArray, List.getElem_cons_succ, List.getElem_cons_zero]
            refine wpAnyH_ready (rs := [7, 9]) (by kernel_rfl) (by simp) (AllReadyH.cons rfl (fun K hK => ?_) (AllReadyH.cons rfl (fun K hK => ?_) (AllReadyH.nil)))
            · try simp only [List.getElem_toArray, List.getElem_cons_succ, List.getElem_cons_zero]
              go_simp
              refine hK.out _ _ (HS4.out) (fun hHeld => ?_)
              clear hK K
              try simp only [Act.put, List.setIfInBounds_toArray, List.set_cons_zero, List.set_cons_succ, List.getElem_toArray, List.getElem_cons_succ, List.getElem_cons_zero]
              refine wpAnyH_ready (rs := [9]) (by kernel_rfl) (by simp) (AllReadyH.cons rfl (fun K hK => ?_) (AllReadyH.nil))
              try simp only [List.getElem_toArray, List.getElem_cons_succ, List.getElem_cons_zero]
              go_simp
              refine hK.out _ _ (HS5.out) (fun hHeld => ?_)
              clear hK K
              try simp only [Act.put, List.setIfInBounds_toArray, List.set_cons_zero, List.set_cons_succ, List.getElem_toArray, List.getElem_cons_succ, List.getElem_cons_zero]
              have hh := FIN m0 m1 m3 m2 m4 (by have e0 := HM0.out; have e1 := HM1.out; have e2 := HM2.out; have e3 := HM3.out; have e4 := HM4.out; exact ⟨by omega, by omega⟩)
              apply hh
            · try simp only [List.getElem_toArray, List.getElem_cons_succ, List.getElem_cons_zero]
              go_simp
              refine hK.out _ _ (HS4.out) (fun hHeld => ?_)
              clear hK K
              try simp only [Act.put, List.setIfInBounds_toArray, List.set_cons_zero, List.set_cons_succ, List.getElem_toArray, List.getElem_cons_succ, List.getElem_cons_zero]
              refine wpAnyH_ready (rs := [7]) (by kernel_rfl) (by simp) (AllReadyH.cons rfl (fun K hK => ?_) (AllReadyH.nil))
              try simp only [List.getElem_toArray, List.getElem_cons_succ, List.getElem_cons_zero]
              go_simp
              refine hK.out _ _ (HS5.out) (fun hHeld => ?_)
              clear hK K
              try simp only [Act.put, List.setIfInBounds_toArray, List.set_cons_zero, List.set_cons_succ, List.getElem_toArray, List.getElem_cons_succ, List.getElem_cons_zero]
              have hh := FIN m0 m1 m4 m2 m3 (by have e0 := HM0.out; have e1 := HM1.out; have e2 := HM2.out; have e3 := HM3.out; have e4 := HM4.out; exact ⟨by omega, by omega⟩)
              apply hh
          · try simp only [List.getElem_toArray, List.getElem_cons_succ, List.getElem_cons_zero]
            go_simp
            refine hK.out _ _ (HS3.out) (fun hHeld => ?_)
            clear hK K
            try simp only [Act.put, List.setIfInBounds_toArray, List.set_cons_zero, List.set_cons_succ, List.getElem_toArray, List.getElem_cons_succ, List.getElem_cons_zero]
            refine wpAnyH_ready (rs := [7, 8]) (by kernel_rfl) (by simp) (AllReadyH.cons rfl (fun K hK => ?_) (AllReadyH.cons rfl (fun K hK => ?_) (AllReadyH.nil)))
            · try simp only [List.getElem_toArray, List.getElem_cons_succ, List.getElem_cons_zero]
              go_simp
              refine hK.out _ _ (HS4.out) (fun hHeld => ?_)
              clear hK K
              try simp only [Act.put, List.setIfInBounds_toArray, List.set_cons_zero, List.set_cons_succ, List.getElem_toArray, List.getElem_cons_succ, List.getElem_cons_zero]
              refine wpAnyH_ready (rs := [8]) (by kernel_rfl) (by simp) (AllReadyH.cons rfl (fun K hK => ?_) (AllReadyH.nil))
              try simp only [List.getElem_toArray, List.getElem_cons_succ, List.getElem_cons_zero]
              go_simp
              refine hK.out _ _ (HS5.out) (fun hHeld => ?_)
              clear hK K
              try simp only [Act.put, List.setIfInBounds_toArray, List.set_cons_zero, List.set_cons_succ, List.getElem_toArray, List.getElem_cons_succ, List.getElem_cons_zero]
              have hh := FIN m0 m1 m3 m4 m2 (by have e0 := HM0.out; have e1 := HM1.out; have e2 := HM2.out; have e3 := HM3.out; have e4 := HM4.out; exact ⟨by omega, by omega⟩)
              apply hh
            · try simp only [List.getElem_toArray, List.getElem_cons_succ, List.getElem_cons_zero]
              go_simp
              refine hK.out _ _ (HS4.out) (fun hHeld => ?_)
              clear hK K
              try simp only [Act.put, List.setIfInBounds_toArray, List.set_cons_zero, List.set_cons_succ, List.getElem_toArray, List.getElem_cons_succ, List.getElem_cons_zero]
              refine wpAnyH_ready (rs := [7]) (by kernel_rfl) (by simp) (AllReadyH.cons rfl (fun K hK => ?_) (AllReadyH.nil))
              try simp only [List.getElem_toArray, List.getElem_cons_succ, List.getElem_cons_zero]
              go_simp
              refine hK.out _ _ (HS5.out) (fun hHeld => ?_)
              clear hK K
              try simp only [Act.put, List.setIfInBounds_toArray, List.set_cons_zero, List.set_cons_succ, List.getElem_toArray, List.getElem_cons_succ, List.getElem_cons_zero]
              have hh := FIN m0 m1 m4 m3 m2 (by have e0 := HM0.out; have e1 := HM1.out; have e2 := HM2.out; have e3 := HM3.out; have e4 := HM4.out; exact ⟨by omega, by omega⟩)
              apply hh
        · try simp only [List.getElem_toArray, List.getElem_cons_succ, List.getElem_cons_zero]
          go_simp
          refine hK.out _ _ (HS2.out) (fun hHeld => ?_)
          clear hK K
          try simp only [Act.put, List.setIfInBounds_toArray, List.set_cons_zero, List.set_cons_succ, List.getElem_toArray, List.getElem_cons_succ, List.getElem_cons_zero]
          refine wpAnyH_ready (rs := [6, 8, 9]) (by kernel_rfl) (by simp) (AllReadyH.cons rfl (fun K hK => ?_) (AllReadyH.cons rfl (fun K hK => ?_) (AllReadyH.cons rfl (fun K hK => ?_) (AllReadyH.nil))))
          · try simp only [List.getElem_toArray, List.getElem_cons_succ, List.getElem_cons_zero]
            go_simp
            refine hK.out _ _ (HS3.out) (fun hHeld => ?_)
            clear hK K
            try simp only [Act.put, List.setIfInBounds_toArray, List.set_cons_zero, List.set_cons_succ, List.getElem_toArray, List.getElem_cons_succ, List.getElem_cons_zero]
            refine wpAnyH_ready (rs := [8, 9]) (by kernel_rfl) (by simp) (AllReadyH.cons rfl (fun K hK => ?_) (AllReadyH.cons rfl (fun K hK => ?_) (AllReadyH.nil)))
            · try simp only [List.getElem_toArray, List.getElem_cons_succ, List.getElem_cons_zero]
              go_simp
              refine hK.out _ _ (HS4.out) (fun hHeld => ?_)
              clear hK K
              try simp only [Act.put, List.setIfInBounds_toArray, List.set_cons_zero, List.set_cons_succ, List.getElem_toArray, List.getElem_cons_succ, List.getElem_cons_zero]
              refine wpAnyH_ready (rs := [9]) (by kernel_rfl) (by simp) (AllReadyH.cons rfl (fun K hK => ?_) (AllReadyH.nil))
              try simp only [List.getElem_toArray, List.getElem_cons_succ, List.getElem_cons_zero]
              go_simp
              refine hK.out _ _ (HS5.out) (fun hHeld => ?_)
              clear hK K
              try simp only [Act.put, List.setIfInBounds_toArray, List.set_cons_zero, List.set_cons_succ, List.getElem_toArray, List.getElem_cons_succ, List.getElem_cons_zero]
              have hh := FIN m0 m2 m1 m3 m4 (by have e0 := HM0.out; have e1 := HM1.out; have e2 := HM2.out; have e3 := HM3.out; have e4 := HM4.out; exact ⟨by omega, by omega⟩)
              apply hh
            · try simp only [List.getElem_toArray, List.getElem_cons_succ, List.getElem_cons_zero]
              go_simp
              refine hK.out _ _ (HS4.out) (fun hHeld => ?_)
              clear hK K
              try simp only [Act.put, List.setIfInBounds_toArray, List.set_cons_zero, List.set_cons_succ, List.getElem_toArray, List.getElem_cons_succ, List.getElem_cons_zero]
              refine wpAnyH_ready (rs := [8]) (by kernel_rfl) (by simp) (AllReadyH.cons rfl (fun K hK => ?_) (AllReadyH.nil))
              try simp only [List.getElem_toArray, List.getElem_cons_succ, List.getElem_cons_zero]
              go_simp
              refine hK.out _ _ (HS5.out) (fun hHeld => ?_)
              clear hK K
              try simp only [Act.put, List.setIfInBounds_toArray, List.set_cons_zero, List.set_cons_succ, List.getElem_toArray, List.getElem_cons_succ, List.getElem_cons_zero]
              have hh := FIN m0 m2 m1 m4 m3 (by have e0 := HM0.out; have e1 := HM1.out; have e2 := HM2.out; have e3 := HM3.out; have e4 := HM4.out; exact ⟨by omega, by omega⟩)
              apply hh
          · try simp only [List.getElem_toArray, List.getElem_cons_succ, List.getElem_cons_zero]
            go_simp
            refine hK.out _ _ (HS3.out) (fun hHeld => ?_)
            clear hK K
            try simp only [Act.put, List.setIfInBounds_toArray, List.set_cons_zero, List.set_cons_succ, List.getElem_toArray, List.getElem_cons_succ, List.getElem_cons_zero]
            refine wpAnyH_ready (rs := [6, 9]) (by kernel_rfl) (by simp) (AllReadyH.cons rfl (fun K hK => ?_) (AllReadyH.cons rfl (fun K hK => ?_) (AllReadyH.nil)))
            · try simp only [List.getElem_toArray, List.getElem_cons_succ, List.getElem_cons_zero]
              go_simp
              refine hK.out _ _ (HS4.out) (fun hHeld => ?_)
              clear hK K
              try simp only [Act.put, List.setIfInBounds_toArray, List.set_cons_zero, List.set_cons_succ, List.getElem_toArray, List.getElem_cons_succ, List.getElem_cons_zero]
              refine wpAnyH_ready (rs := [9]) (by kernel_rfl) (by simp) (AllReadyH.cons rfl (fun K hK => ?_) (AllReadyH.nil))
              try simp only [List.getElem_toArray, List.getElem_cons_succ, List.getElem_cons_zero]
              go_simp
              refine hK.out _ _ (HS5.out) (fun hHeld => ?_)
              clear hK K
              try simp only [Act.put, List.setIfInBounds_toArray, List.set_cons_zero, List.set_cons_succ, List.getElem_toArray, List.getElem_cons_succ, List.getElem_cons_zero]
              have hh := FIN m0 m3 m1 m2 m4 (by have e0 := HM0.out; have e1 := HM1.out; have e2 := HM2.out; have e3 := HM3.out; have e4 := HM4.out; exact ⟨by omega, by omega⟩)
              apply hh
            · try simp only [List.getElem_toArray, List.getElem_cons_succ, List.getElem_cons_zero]
              go_simp
              refine hK.out _ _ (HS4.out) (fun hHeld => ?_)
              clear hK K
              try simp only [Act.put, List.setIfInBounds_toArray, List.set_cons_zero, List.set_cons_succ, List.getElem_toArray, List.getElem_cons_succ, List.getElem_cons_zero]
              refine wpAnyH_ready (rs := [6]) (by kernel_rfl) (by simp) (AllReadyH.cons rfl (fun K hK => ?_) (AllReadyH.nil))
              try simp only [List.getElem_toArray, List.getElem_cons_succ, List.getElem_cons_zero]
              go_simp
              refine hK.out _ _ (HS5.out) (fun hHeld => ?_)
              clear hK K
              try simp only [Act.put, List.setIfInBounds_toArray, List.set_cons_zero, List.set_cons_succ, List.getElem_toArray, List.getElem_cons_succ, List.getElem_cons_zero]
              have hh := FIN m0 m4 m1 m2 m3 (by have e0 := HM0.out; have e1 := HM1.out; have e2 := HM2.out; have e3 := HM3.out; have e4 := HM4.out; exact ⟨by omega, by omega⟩)
              apply hh
          · try simp only [List.getElem_toArray, List.getElem_cons_succ, List.getElem_cons_zero]
            go_simp
            refine hK.out _ _ (HS3.out) (fun hHeld => ?_)
            clear hK K
            try simp only [Act.put, List.setIfInBounds_toArray, List.set_cons_zero, List.set_cons_succ, List.getElem_toArray, List.getElem_cons_succ, List.getElem_cons_zero]
            refine wpAnyH_ready (rs := [6, 8]) (by kernel_rfl) (by simp) (AllReadyH.cons rfl (fun K hK => ?_) (AllReadyH.cons rfl (fun K hK => ?_) (AllReadyH.nil)))
            · try simp only [List.getElem_toArray, List.getElem_cons_succ, List.getElem_cons_zero]
              go_simp
              refine hK.out _ _ (HS4.out) (fun hHeld => ?_)
              clear hK K
              try simp only [Act.put, List.setIfInBounds_toArray, List.set_cons_zero, List.set_cons_succ, List.getElem_toArray, List.getElem_cons_succ, List.getElem_cons_zero]
              refine wpAnyH_ready (rs := [8]) (by kernel_rfl) (by simp) (AllReadyH.cons rfl (fun K hK => ?_) (AllReadyH.nil))
              try simp only [List.getElem_toArray, List.getElem_cons_succ, List.getElem_cons_zero]
              go_simp
              refine hK.out _ _ (HS5.out) (fun hHeld => ?_)
              clear hK K
              try simp only [Act.put, List.setIfInBounds_toArray, List.set_cons_zero, List.set_cons_succ, List.getElem_toArray, List.getElem_cons_succ, List.getElem_cons_zero]
              have hh := FIN m0 m3 m1 m4 m2 (by have e0 := HM0.out; have e1 := HM1.out; have e2 := HM2.out; have e3 := HM3.out; have e4 := HM4.out; exact ⟨by omega, by omega⟩)
              apply hh
            · try simp only [List.getElem_toArray, List.getElem_cons_succ, List.getElem_cons_zero]
              go_simp
              refine hK.out _ _ (HS4.out) (fun hHeld => ?_)
              clear hK K
              try simp only [Act.put, List.setIfInBounds_toArray, List.set_cons_zero, List.set_cons_succ, List.getElem_toArray, List.getElem_cons_succ, List.getElem_cons_zero]
              refine wpAnyH_ready (rs := [6]) (by kernel_rfl) (by simp) (AllReadyH.cons rfl (fun K hK => ?_) (AllReadyH.nil))
              try simp only [List.getElem_toArray, List.getElem_cons_succ, List.getElem_cons_zero]
              go_simp
              refine hK.out _ _ (HS5.out) (fun hHeld => ?_)
              clear hK K
              try simp only [Act.put, List.setIfInBounds_toArray, List.set_cons_zero, List.set_cons_succ, List.getElem_toArray, List.getElem_cons_succ, List.getElem_cons_zero]
              have hh := FIN m0 m4 m1 m3 m2 (by have e0 := HM0.out; have e1 := HM1.out; have e2 := HM2.out; have e3 := HM3.out; have e4 := HM4.out; exact ⟨by omega, by omega⟩)
              apply hh
        · try simp only [List.getElem_toArray, List.getElem_cons_succ, List.getElem_cons_zero]
          go_simp
          refine hK.out _ _ (HS2.out) (fun hHeld => ?_)
          clear hK K
          try simp only [Act.put, List.setIfInBounds_toArray, List.set_cons_zero, List.set_cons_succ, List.getElem_toArray, List.getElem_cons_succ, List.getElem_cons_zero]
          refine wpAnyH_ready (rs := [6, 7, 9]) (by kernel_rfl) (by simp) (AllReadyH.cons rfl (fun K hK => ?_) (AllReadyH.cons rfl (fun K hK => ?_) (AllReadyH.cons rfl (fun K hK => ?_) (AllReadyH.nil))))
          · try simp only [List.getElem_toArray, List.getElem_cons_succ, List.getElem_cons_zero]
            go_simp
            refine hK.out _ _ (HS3.out) (fun hHeld => ?_)
            clear hK K
            try simp only [Act.put, List.setIfInBounds_toArray, List.set_cons_zero, List.set_cons_succ, List.getElem_toArray, List.getElem_cons_succ, List.getElem_cons_zero]
            refine wpAnyH_ready (rs := [7, 9]) (by kernel_rfl) (by simp) (AllReadyH.cons rfl (fun K hK => ?_) (AllReadyH.cons rfl (fun K hK => ?_) (AllReadyH.nil)))
            · try simp only [List.getElem_toArray, List.getElem_cons_succ, List.getElem_cons_zero]
              go_simp
              refine hK.out _ _ (HS4.out) (fun hHeld => ?_)
              clear hK K
              try simp only [Act.put, List.setIfInBounds_toArray, List.set_cons_zero, List.set_cons_succ, List.getElem_toArray, List.getElem_cons_succ, List.getElem_cons_zero]
              refine wpAnyH_ready (rs := [9]) (by kernel_rfl) (by simp) (AllReadyH.cons rfl (fun K hK => ?_) (AllReadyH.nil))
              try simp only [List.getElem_toArray, List.getElem_cons_succ, List.getElem_cons_zero]
              go_simp
              refine hK.out _ _ (HS5.out) (fun hHeld => ?_)
              clear hK K
              try simp only [Act.put, List.setIfInBounds_toArray, List.set_cons_zero, List.set_cons_succ, List.getElem_toArray, List.getElem_cons_succ, List.getElem_cons_zero]
              have hh := FIN m0 m2 m3 m1 m4 (by have e0 := HM0.out; have e1 := HM1.out; have e2 := HM2.out; have e3 := HM3.out; have e4 := HM4.out; exact ⟨by omega, by omega⟩)
              apply hh
            · try simp only [List.getElem_toArray, List.getElem_cons_succ, List.getElem_cons_zero]
              go_simp
              refine hK.out _ _ (HS4.out) (fun hHeld => ?_)
              clear hK K
              try simp only [Act.put, List.setIfInBounds_toArray, List.set_cons_zero, List.set_cons_succ, List.getElem_toArray, List.getElem_cons_succ, List.getElem_cons_zero]
              refine wpAnyH_ready (rs := [7]) (by kernel_rfl) (by simp) (AllReadyH.cons rfl (fun K hK => ?_) (AllReadyH.nil))
              try simp only [List.getElem_toArray, List.getElem_cons_succ, List.getElem_cons_zero]
              go_simp
              refine hK.out _ _ (HS5.out) (fun hHeld => ?_)
              clear hK K
              try simp only [Act.put, List.setIfInBounds_toArray, List.set_cons_zero, List.set_cons_succ, List.getElem_toArray, List.getElem_cons_succ, List.getElem_cons_zero]
              have hh := FIN m0 m2 m4 m1 m3 (by have e0 := HM0.out; have e1 := HM1.out; have e2 := HM2.out; have e3 := HM3.out; have e4 := HM4.out; exact ⟨by omega, by omega⟩)
              apply hh
          · try simp only [List.getElem_toArray, List.getElem_cons_succ, List.getElem_cons_zero]
            go_simp
            refine hK.out _ _ (HS3.out) (fun hHeld => ?_)
            clear hK K
            try simp only [Act.put, List.setIfInBounds_toArray, List.set_cons_zero, List.set_cons_succ, List.getElem_toArray, List.getElem_cons_succ, List.getElem_cons_zero]
            refine wpAnyH_ready (rs := [6, 9]) (by kernel_rfl) (by simp) (AllReadyH.cons rfl (fun K hK => ?_) (AllReadyH.cons rfl (fun K hK => ?_) (AllReadyH.nil)))
            · try simp only [List.getElem_toArray, List.getElem_cons_succ, List.getElem_cons_zero]
              go_simp
              refine hK.out _ _ (HS4.out) (fun hHeld => ?_)
              clear hK K
              try simp only [Act.put, List.setIfInBounds_toArray, List.set_cons_zero, List.set_cons_succ, List.getElem_toArray, List.getElem_cons_succ, List.getElem_cons_zero]
              refine wpAnyH_ready (rs := [9]) (by kernel_rfl) (by simp) (AllReadyH.cons rfl (fun K hK => ?_) (AllReadyH.nil))
              try simp only [List.getElem_toArray, List.getElem_cons_succ, List.getElem_cons_zero]
              go_simp
              refine hK.out _ _ (HS5.out) (fun hHeld => ?_)
              clear hK K
              try simp only [Act.put, List.setIfInBounds_toArray, List.set_cons_zero, List.set_cons_succ, List.getElem_toArray, List.getElem_cons_succ, List.getElem_cons_zero]
              have hh := FIN m0 m3 m2 m1 m4 (by have e0 := HM0.out; have e1 := HM1.out; have e2 := HM2.out; have e3 := HM3.out; have e4 := HM4.out; exact ⟨by omega, by omega⟩)
              apply hh
            · try simp only [List.getElem_toArray, List.getElem_cons_succ, List.getElem_cons_zero]
              go_simp
              refine hK.out _ _ (HS4.out) (fun hHeld => ?_)
              clear hK K
              try simp only [Act.put, List.setIfInBounds_toArray, List.set_cons_zero, List.set_cons_succ, List.getElem_toArray, List.getElem_cons_succ, List.getElem_cons_zero]
              refine wpAnyH_ready (rs := [6]) (by kernel_rfl) (by simp) (AllReadyH.cons rfl (fun K hK => ?_) (AllReadyH.nil))
              try simp only [List.getElem_toArray, List.getElem_cons_succ, List.getElem_cons_zero]
              go_simp
              refine hK.out _ _ (HS5.out) (fun hHeld => ?_)
              clear hK K
              try simp only [Act.put, List.setIfInBounds_toArray, List.set_cons_zero, List.set_cons_succ, List.getElem_toArray, List.getElem_cons_succ, List.getElem_cons_zero]
              have hh := FIN m0 m4 m2 m1 m3 (by have e0 := HM0.out; have e1 := HM1.out; have e2 := HM2.out; have e3 := HM3.out; have e4 := HM4.out; exact ⟨by omega, by omega⟩)
              apply hh
          · try simp only [List.getElem_toArray, List.getElem_cons_succ, List.getElem_cons_zero]
            go_simp
            refine hK.out _ _ (HS3.out) (fun hHeld => ?_)
            clear hK K
            try simp only [Act.put, List.setIfInBounds_toArray, List.set_cons_zero, List.set_cons_succ, List.getElem_toArray, List.getElem_cons_succ, List.getElem_cons_zero]
            refine wpAnyH_ready (rs := [6, 7]) (by kernel_rfl) (by simp) (AllReadyH.cons rfl (fun K hK => ?_) (AllReadyH.cons rfl (fun K hK => ?_) (AllReadyH.nil)))
            · try simp only [List.getElem_toArray, List.getElem_cons_succ, List.getElem_cons_zero]
              go_simp
              refine hK.out _ _ (HS4.out) (fun hHeld => ?_)
              clear hK K
              try simp only [Act.put, List.setIfInBounds_toArray, List.set_cons_zero, List.set_cons_succ, List.getElem_toArray, List.getElem_cons_succ, List.getElem_cons_zero]
              refine wpAnyH_ready (rs := [7]) (by kernel_rfl) (by simp) (AllReadyH.cons rfl (fun K hK => ?_) (AllReadyH.nil))
              try simp only [List.getElem_toArray, List.getElem_cons_succ, List.getElem_cons_zero]
              go_simp
              refine hK.out _ _ (HS5.out) (fun hHeld => ?_)
              clear hK K
              try simp only [Act.put, List.setIfInBounds_toArray, List.set_cons_zero, List.set_cons_succ, List.getElem_toArray, List.getElem_cons_succ, List.getElem_cons_zero]
              have hh := FIN m0 m3 m4 m1 m2 (by have e0 := HM0.out; have e1 := HM1.out; have e2 := HM2.out; have e3 := HM3.out; have e4 := HM4.out; exact ⟨by omega, by omega⟩)
              apply hh
            · try simp only [List.getElem_toArray, List.getElem_cons_succ, List.getElem_cons_zero]
              go_simp
              refine hK.out _ _ (HS4.out) (fun hHeld => ?_)
              clear hK K
              try simp only [Act.put, List.setIfInBounds_toArray, List.set_cons_zero, List.set_cons_succ, List.getElem_toArray, List.getElem_cons_succ, List.getElem_cons_zero]
              refine wpAnyH_ready (rs := [6]) (by kernel_rfl) (by simp) (AllReadyH.cons rfl (fun K hK => ?_) (AllReadyH.nil))
              try simp only [List.getElem_toArray, List.getElem_cons_succ, List.getElem_cons_zero]
              go_simp
              refine hK.out _ _ (HS5.out) (fun hHeld => ?_)
              clear hK K
              try simp only [Act.put, List.setIfInBounds_toArray, List.set_cons_zero, List.set_cons_succ, List.getElem_toArray, List.getElem_cons_succ, List.getElem_cons_zero]
              have hh := FIN m0 m4 m3 m1 m2 (by have e0 := HM0.out; have e1 := HM1.out; have e2 := HM2.out; have e3 := HM3.out; have e4 := HM4.out; exact ⟨by omega, by omega⟩)
              apply hh
        · try simp only [List.getElem_toArray, List.getElem_cons_succ, List.getElem_cons_zero]
          go_simp
          refine hK.out _ _ (HS2.out) (fun hHeld => ?_)
          clear hK K
          try simp only [Act.put, List.setIfInBounds_toArray, List.set_cons_zero, List.set_cons_succ, List.getElem_toArray, List.getElem_cons_succ, List.getElem_cons_zero]
          refine wpAnyH_ready (rs := [6, 7, 8]) (by kernel_rfl) (by simp) (AllReadyH.cons rfl (fun K hK => ?_) (AllReadyH.cons rfl (fun K hK => ?_) (AllReadyH.cons rfl (fun K hK => ?_) (AllReadyH.nil))))
          · try simp only [List.getElem_toArray, List.getElem_cons_succ, List.getElem_cons_zero]
            go_simp
            refine hK.out _ _ (HS3.out) (fun hHeld => ?_)
            clear hK K
            try simp only [Act.put, List.setIfInBounds_toArray, List.set_cons_zero, List.set_cons_succ, List.getElem_toArray, List.getElem_cons_succ, List.getElem_cons_zero]
            refine wpAnyH_ready (rs := [7, 8]) (by kernel_rfl) (by simp) (AllReadyH.cons rfl (fun K hK => ?_) (AllReadyH.cons rfl (fun K hK => ?_) (AllReadyH.nil)))
            · try simp only [List.getElem_toArray, List.getElem_cons_succ, List.getElem_cons_zero]
              go_simp
              refine hK.out _ _ (HS4.out) (fun hHeld => ?_)
              clear hK K
              try simp only [Act.put, List.setIfInBounds_toArray, List.set_cons_zero, List.set_cons_succ, List.getElem_toArray, List.getElem_cons_succ, List.getElem_cons_zero]
              refine wpAnyH_ready (rs := [8]) (by kernel_rfl) (by simp) (AllReadyH.cons rfl (fun K hK => ?_) (AllReadyH.nil))
              try simp only [List.getElem_toArray, List.getElem_cons_succ, List.getElem_cons_zero]
              go_simp
              refine hK.out _ _ (HS5.out) (fun hHeld => ?_)
              clear hK K
              try simp only [Act.put, List.setIfInBounds_toArray, List.set_cons_zero, List.set_cons_succ, List.getElem_toArray, List.getElem_cons_succ, List.getElem_cons_zero]
              have hh := FIN m0 m2 m3 m4 m1 (by have e0 := HM0.out; have e1 := HM1.out; have e2 := HM2.out; have e3 := HM3.out; have e4 := HM4.out; exact ⟨by omega, by omega⟩)
              apply hh
            · try simp only [List.getElem_toArray, List.getElem_cons_succ, List.getElem_cons_zero]
              go_simp
              refine hK.out _ _ (HS4.out) (fun hHeld => ?_)
              clear hK K
              try simp only [Act.put, List.setIfInBounds_toArray, List.set_cons_zero, List.set_cons_succ, List.getElem_toArray, List.getElem_cons_succ, List.getElem_cons_zero]
              refine wpAnyH_ready (rs := [7]) (by kernel_rfl) (by simp) (AllReadyH.cons rfl (fun K hK => ?_) (AllReadyH.nil))
              try simp only [List.getElem_toArray, List.getElem_cons_succ, List.getElem_cons_zero]
              go_simp
              refine hK.out _ _ (HS5.out) (fun hHeld => ?_)
              clear hK K
              try simp only [Act.put, List.setIfInBounds_toArray, List.set_cons_zero, List.set_cons_succ, List.getElem_toArray, List.getElem_cons_succ, List.getElem_cons_zero]
              have hh := FIN m0 m2 m4 m3 m1 (by have e0 := HM0.out; have e1 := HM1.out; have e2 := HM2.out; have e3 := HM3.out; have e4 := HM4.out; exact ⟨by omega, by omega⟩)
              apply hh
          · try simp only [List.getElem_toArray, List.getElem_cons_succ, List.getElem_cons_zero]
            go_simp
            refine hK.out _ _ (HS3.out) (fun hHeld => ?_)
            clear hK K
            try simp only [Act.put, List.setIfInBounds_toArray, List.set_cons_zero, List.set_cons_succ, List.getElem_toArray, List.getElem_cons_succ, List.getElem_cons_zero]
            refine wpAnyH_ready (rs := [6, 8]) (by kernel_rfl) (by simp) (AllReadyH.cons rfl (fun K hK => ?_) (AllReadyH.cons rfl (fun K hK => ?_) (AllReadyH.nil)))
            · try simp only [List.getElem_toArray, List.getElem_cons_succ, List.getElem_cons_zero]
              go_simp
              refine hK.out _ _ (HS4.out) (fun hHeld => ?_)
              clear hK K
              try simp only [Act.put, List.setIfInBounds_toArray, List.set_cons_zero, List.set_cons_succ, List.getElem_toArray, List.getElem_cons_succ, List.getElem_cons_zero]
              refine wpAnyH_ready (rs := [8]) (by kernel_rfl) (by simp) (AllReadyH.cons rfl (fun K hK => ?_) (AllReadyH.nil))
              try simp only [List.getElem_toArray, List.getElem_cons_succ, List.getElem_cons_zero]
              go_simp
              refine hK.out _ _ (HS5.out) (fun hHeld => ?_)
              clear hK K
              try simp only [Act.put, List.setIfInBounds_toArray, List.set_cons_zero, List.set_cons_succ, List.getElem_toArray, List.getElem_cons_succ, List.getElem_cons_zero]
              have hh := FIN m0 m3 m2 m4 m1 (by have e0 := HM0.out; have e1 := HM1.out; have e2 := HM2.out; have e3 := HM3.out; have e4 := HM4.out; exact ⟨by omega, by omega⟩)
              apply hh
            · try simp only [List.getElem_toArray, List.getElem_cons_succ, List.getElem_cons_zero]
              go_simp
              refine hK.out _ _ (HS4.out) (fun hHeld => ?_)
              clear hK K
              try simp only [Act.put, List.setIfInBounds_toArray, List.set_cons_zero, List.set_cons_succ, List.getElem_toArray, List.getElem_cons_succ, List.getElem_cons_zero]
              refine wpAnyH_ready (rs := [6]) (by kernel_rfl) (by simp) (AllReadyH.cons rfl (fun K hK => ?_) (AllReadyH.nil))
              try simp only [List.getElem_toArray, List.getElem_cons_succ, List.getElem_cons_zero]
              go_simp
              refine hK.out _ _ (HS5.out) (fun hHeld => ?_)
              clear hK K
              try simp only [Act.put, List.setIfInBounds_toArray, List.set_cons_zero, List.set_cons_succ, List.getElem_toArray, List.getElem_cons_succ, List.getElem_cons_zero]
              have hh := FIN m0 m4 m2 m3 m1 (by have e0 := HM0.out; have e1 := HM1.out; have e2 := HM2.out; have e3 := HM3.out; have e4 := HM4.out; exact ⟨by omega, by omega⟩)
              apply hh
          · try simp only [List.getElem_toArray, List.getElem_cons_succ, List.getElem_cons_zero]
            go_simp
            refine hK.out _ _ (HS3.out) (fun hHeld => ?_)
            clear hK K
            try simp only [Act.put, List.setIfInBounds_toArray, List.set_cons_zero, List.set_cons_succ, List.getElem_toArray, List.getElem_cons_succ, List.getElem_cons_zero]
            refine wpAnyH_ready (rs := [6, 7]) (by kernel_rfl) (by simp) (AllReadyH.cons rfl (fun K hK => ?_) (AllReadyH.cons rfl (fun K hK => ?_) (AllReadyH.nil)))
            · try simp only [List.getElem_toArray, List.getElem_cons_succ, List.getElem_cons_zero]
              go_simp
              refine hK.out _ _ (HS4.out) (fun hHeld => ?_)
              clear hK K
              try simp only [Act.put, List.setIfInBounds_toArray, List.set_cons_zero, List.set_cons_succ, List.getElem_toArray, List.getElem_cons_succ, List.getElem_cons_zero]
              refine wpAnyH_ready (rs := [7]) (by kernel_rfl) (by simp) (AllReadyH.cons rfl (fun K hK => ?_) (AllReadyH.nil))
              try simp only [List.getElem_toArray, List.getElem_cons_succ, List.getElem_cons_zero]
              go_simp
              refine hK.out _ _ (HS5.out) (fun hHeld => ?_)
              clear hK K
              try simp only [Act.put, List.setIfInBounds_toArray, List.set_cons_zero, List.set_cons_succ, List.getElem_toArray, List.getElem_cons_succ, List.getElem_cons_zero]
              have hh := FIN m0 m3 m4 m2 m1 (by have e0 := HM0.out; have e1 := HM1.out; have e2 := HM2.out; have e3 := HM3.out; have e4 := HM4.out; exact ⟨by omega, by omega⟩)
              apply hh
            · try simp only [List.getElem_toArray, List.getElem_cons_succ, List.getElem_cons_zero]
              go_simp
              refine hK.out _ _ (HS4.out) (fun hHeld => ?_)
              clear hK K
              try simp only [Act.put, List.setIfInBounds_toArray, List.set_cons_zero, List.set_cons_succ, List.getElem_toArray, List.getElem_cons_succ, List.getElem_cons_zero]
              refine wpAnyH_ready (rs := [6]) (by kernel_rfl) (by simp) (AllReadyH.cons rfl (fun K hK => ?_) (AllReadyH.nil))
              try simp only [List.getElem_toArray, List.getElem_cons_succ, List.getElem_cons_zero]
              go_simp
              refine hK.out _ _ (HS5.out) (fun hHeld => ?_)
              clear hK K
              try simp only [Act.put, List.setIfInBounds_toArray, List.set_cons_zero, List.set_cons_succ, List.getElem_toArray, List.getElem_cons_succ, List.getElem_cons_zero]
              have hh := FIN m0 m4 m3 m2 m1 (by have e0 := HM0.out; have e1 := HM1.out; have e2 := HM2.out; have e3 := HM3.out; have e4 := HM4.out; exact ⟨by omega, by omega⟩)
              apply hh
      · try simp only [List.getElem_toArray, List.getElem_cons_succ, List.getElem_cons_zero]
        go_simp
        refine hK.out _ _ (HS1.out) (fun hHeld => ?_)
        clear hK K
        try simp only [Act.put, List.setIfInBounds_toArray, List.set_cons_zero, List.set_cons_succ, List.getElem_toArray, List.getElem_cons_succ, List.getElem_cons_zero]
        refine wpAnyH_ready (rs := [5, 7, 8, 9]) (by kernel_rfl) (by simp) (AllReadyH.cons rfl (fun K hK => ?_) (AllReadyH.cons rfl (fun K hK => ?_) (AllReadyH.cons rfl (fun K hK => ?_) (AllReadyH.cons rfl (fun K hK => ?_) (AllReadyH.nil)))))
        · try simp only [List.getElem_toArray, List.getElem_cons_succ, List.getElem_cons_zero]
          go_simp
          refine hK.out _ _ (HS2.out) (fun hHeld => ?_)
          clear hK K
          try simp only [Act.put, List.setIfInBounds_toArray, List.set_cons_zero, List.set_cons_succ, List.getElem_toArray, List.getElem_cons_succ, List.getElem_cons_zero]
          refine wpAnyH_ready (rs := [7, 8, 9]) (by kernel_rfl) (by simp) (AllReadyH.cons rfl (fun K hK => ?_) (AllReadyH.cons rfl (fun K hK => ?_) (AllReadyH.cons rfl (fun K hK => ?_) (AllReadyH.nil))))
          · try simp only [List.getElem_toArray, List.getElem_cons_succ, List.getElem_cons_zero]
            go_simp
            refine hK.out _ _ (HS3.out) (fun hHeld => ?_)
            clear hK K
            try simp only [Act.put, List.setIfInBounds_toArray, List.set_cons_zero, List.set_cons_succ, List.getElem_toArray, List.getElem_cons_succ, List.getElem_cons_zero]
            refine wpAnyH_ready (rs := [8, 9]) (by kernel_rfl) (by simp) (AllReadyH.cons rfl (fun K hK => ?_) (AllReadyH.cons rfl (fun K hK => ?_) (AllReadyH.nil)))
            · try simp only [List.getElem_toArray, List.getElem_cons_succ, List.getElem_cons_zero]
              go_simp
              refine hK.out _ _ (HS4.out) (fun hHeld => ?_)
              clear hK K
              try simp only [Act.put, List.setIfInBounds_toArray, List.set_cons_zero, List.set_cons_succ, List.getElem_toArray, List.getElem_cons_succ, List.getElem_cons_zero]
              refine wpAnyH_ready (rs := [9]) (by kernel_rfl) (by simp) (AllReadyH.cons rfl (fun K hK => ?_) (AllReadyH.nil))
              try simp only [List.getElem_toArray, List.getElem_cons_succ, List.getElem_cons_zero]
              go_simp
              refine hK.out _ _ (HS5.out) (fun hHeld => ?_)
              clear hK K
              try simp only [Act.put, List.setIfInBounds_toArray, List.set_cons_zero, List.set_cons_succ, List.getElem_toArray, List.getElem_cons_succ, List.getElem_cons_zero]
              have hh := FIN m1 m0 m2 m3 m4 (by have e0 := HM0.out; have e1 := HM1.out; have e2 := HM2.out; have e3 := HM3.out; have e4 := HM4.out; exact ⟨by omega, by omega⟩)
              apply hh
            · try simp only [List.getElem_toArray, List.getElem_cons_succ, List.getElem_cons_zero]
              go_simp
              refine hK.out _ _ (HS4.out) (fun hHeld => ?_)
              clear hK K
              try simp only [Act.put, List.setIfInBounds_toArray, List.set_cons_zero, List.set_cons_succ, List.getElem_toArray, List.getElem_cons_succ, List.getElem_cons_zero]
              refine wpAnyH_ready (rs := [8]) (by kernel_rfl) (by simp) (AllReadyH.cons rfl (fun K hK => ?_) (AllReadyH.nil))
              try simp only [List.getElem_toArray, List.getElem_cons_succ, List.getElem_cons_zero]
              go_simp
              refine hK.out _ _ (HS5.out) (fun hHeld => ?_)
              clear hK K
              try simp only [Act.put, List.setIfInBounds_toArray, List.set_cons_zero, List.set_cons_succ, List.getElem_toArray, List.getElem_cons_succ, List.getElem_cons_zero]
              have hh := FIN m1 m0 m2 m4 m3 (by have e0 := HM0.out; have e1 := HM1.out; have e2 := HM2.out; have e3 := HM3.out; have e4 := HM4.out; exact ⟨by omega, by omega⟩)
              apply hh
          · try simp only [List.getElem_toArray, List.getElem_cons_succ, List.getElem_cons_zero]
            go_simp
            refine hK.out _ _ (HS3.out) (fun hHeld => ?_)
            clear hK K
            try simp only [Act.put, List.setIfInBounds_toArray, List.set_cons_zero, List.set_cons_succ, List.getElem_toArray, List.getElem_cons_succ, List.getElem_cons_zero]
            refine wpAnyH_ready (rs := [7, 9]) (by kernel_rfl) (by simp) (AllReadyH.cons rfl (fun K hK => ?_) (AllReadyH.cons rfl (fun K hK => ?_) (AllReadyH.nil)))
            · try simp only [List.getElem_toArray, List.getElem_cons_succ, List.getElem_cons_zero]
              go_simp
              refine hK.out _ _ (HS4.out) (fun hHeld => ?_)
              clear hK K
              try simp only [Act.put, List.setIfInBounds_toArray, List.set_cons_zero, List.set_cons_succ, List.getElem_toArray, List.getElem_cons_succ, List.getElem_cons_zero]
              refine wpAnyH_ready (rs := [9]) (by kernel_rfl) (by simp) (AllReadyH.cons rfl (fun K hK => ?_) (AllReadyH.nil))
              try simp only [List.getElem_toArray, List.getElem_cons_succ, List.getElem_cons_zero]
              go_simp
              refine hK.out _ _ (HS5.out) (fun hHeld => ?_)
              clear hK K
              try simp only [Act.put, List.setIfInBounds_toArray, List.set_cons_zero, List.set_cons_succ, List.getElem_toArray, List.getElem_cons_succ, List.getElem_cons_zero]
              have hh := FIN m1 m0 m3 m2 m4 (by have e0 := HM0.out; have e1 := HM1.out; have e2 := HM2.out; have e3 := HM3.out; have e4 := HM4.out; exact ⟨by omega, by omega⟩)
              apply hh
            · try simp only [List.getElem_toArray, List.getElem_cons_succ, List.getElem_cons_zero]
              go_simp
              refine hK.out _ _ (HS4.out) (fun hHeld => ?_)
              clear hK K
              try simp only [Act.put, List.setIfInBounds_toArray, List.set_cons_zero, List.set_cons_succ, List.getElem_toArray, List.getElem_cons_succ, List.getElem_cons_zero]
              refine wpAnyH_ready (rs := [7]) (by kernel_rfl) (by simp) (AllReadyH.cons rfl (fun K hK => ?_) (AllReadyH.nil))
              try simp only [List.getElem_toArray, List.getElem_cons_succ, List.getElem_cons_zero]
              go_simp
              refine hK.out _ _ (HS5.out) (fun hHeld => ?_)
              clear hK K
              try simp only [Act.put, List.setIfInBounds_toArray, List.set_cons_zero, List.set_cons_succ, List.getElem_toArray, List.getElem_cons_succ, List.getElem_cons_zero]
              have hh := FIN m1 m0 m4 m2 m3 (by have e0 := HM0.out; have e1 := HM1.out; have e2 := HM2.out; have e3 := HM3.out; have e4 := HM4.out; exact ⟨by omega, by omega⟩)
              apply hh
          · try simp only [List.getElem_toArray, List.getElem_cons_succ, List.getElem_cons_zero]
            go_simp
            refine hK.out _ _ (HS3.out) (fun hHeld => ?_)
            clear hK K
            try simp only [Act.put, List.setIfInBounds_toArray, List.set_cons_zero, List.set_cons_succ, List.getElem_toArray, List.getElem_cons_succ, List.getElem_cons_zero]
            refine wpAnyH_ready (rs := [7, 8]) (by kernel_rfl) (by simp) (AllReadyH.cons rfl (fun K hK => ?_) (AllReadyH.cons rfl (fun K hK => ?_) (AllReadyH.nil)))
            · try simp only [List.getElem_toArray, List.getElem_cons_succ, List.getElem_cons_zero]
              go_simp
              refine hK.out _ _ (HS4.out) (fun hHeld => ?_)
              clear hK K
              try simp only [Act.put, List.setIfInBounds_toArray, List.set_cons_zero, List.set_cons_succ, List.getElem_toArray, List.getElem_cons_succ, List.getElem_cons_zero]
              refine wpAnyH_ready (rs := [8]) (by kernel_rfl) (by simp) (AllReadyH.cons rfl (fun K hK => ?_) (AllReadyH.nil))
              try simp only [List.getElem_toArray, List.getElem_cons_succ, List.getElem_cons_zero]
              go_simp
              refine hK.out _ _ (HS5.out) (fun hHeld => ?_)
              clear hK K
              try simp only [Act.put, List.setIfInBounds_toArray, List.set_cons_zero, List.set_cons_succ, List.getElem_toArray, List.getElem_cons_succ, List.getElem_cons_zero]
              have hh := FIN m1 m0 m3 m4 m2 (by have e0 := HM0.out; have e1 := HM1.out; have e2 := HM2.out; have e3 := HM3.out; have e4 := HM4.out; exact ⟨by omega, by omega⟩)
              apply hh
            · try simp only [List.getElem_toArray, List.getElem_cons_succ, List.getElem_cons_zero]
              go_simp
              refine hK.out _ _ (HS4.out) (fun hHeld => ?_)
              clear hK K
              try simp only [Act.put, List.setIfInBounds_toArray, List.set_cons_zero, List.set_cons_succ, List.getElem_toArray, List.getElem_cons_succ, List.getElem_cons_zero]
              refine wpAnyH_ready (rs := [7]) (by kernel_rfl) (by simp) (AllReadyH.cons rfl (fun K hK => ?_) (AllReadyH.nil))
              try simp only [List.getElem_toArray, List.getElem_cons_succ, List.getElem_cons_zero]
              go_simp
              refine hK.out _ _ (HS5.out) (fun hHeld => ?_)
              clear hK K
              try simp only [Act.put, List.setIfInBounds_toArray, List.set_cons_zero, List.set_cons_succ, List.getElem_toArray, List.getElem_cons_succ, List.getElem_cons_zero]
              have hh := FIN m1 m0 m4 m3 m2 (by have e0 := HM0.out; have e1 := HM1.out; have e2 := HM2.out; have e3 := HM3.out; have e4 := HM4.out; exact ⟨by omega, by omega⟩)
              apply hh
        · try simp only [List.getElem_toArray, List.getElem_cons_succ, List.getElem_cons_zero]
          go_simp
          refine hK.out _ _ (HS2.out) (fun hHeld => ?_)
          clear hK K
          try simp only [Act.put, List.setIfInBounds_toArray, List.set_cons_zero, List.set_cons_succ, List.getElem_toArray, List.getElem_cons_succ, List.getElem_cons_zero]
          refine wpAnyH_ready (rs := [5, 8, 9]) (by kernel_rfl) (by simp) (AllReadyH.cons rfl (fun K hK => ?_) (AllReadyH.cons rfl (fun K hK => ?_) (AllReadyH.cons rfl (fun K hK => ?_) (AllReadyH.nil))))
          · try simp only [List.getElem_toArray, List.getElem_cons_succ, List.getElem_cons_zero]
            go_simp
            refine hK.out _ _ (HS3.out) (fun hHeld => ?_)
            clear hK K
            try simp only [Act.put, List.setIfInBounds_toArray, List.set_cons_zero, List.set_cons_succ, List.getElem_toArray, List.getElem_cons_succ, List.getElem_cons_zero]
            refine wpAnyH_ready (rs := [8, 9]) (by kernel_rfl) (by simp) (AllReadyH.cons rfl (fun K hK => ?_) (AllReadyH.cons rfl (fun K hK => ?_) (AllReadyH.nil)))
            · try simp only [List.getElem_toArray, List.getElem_cons_succ, List.getElem_cons_zero]
              go_simp
              refine hK.out _ _ (HS4.out) (fun hHeld => ?_)
              clear hK K
              try simp only [Act.put, List.setIfInBounds_toArray, List.set_cons_zero, List.set_cons_succ, List.getElem_toArray, List.getElem_cons_succ, List.getElem_cons_zero]
              refine wpAnyH_ready (rs := [9]) (by kernel_rfl) (by simp) (AllReadyH.cons rfl (fun K hK => ?_) (AllReadyH.nil))
              try simp only [List.getElem_toArray, List.getElem_cons_succ, List.getElem_cons_zero]
              go_simp
              refine hK.out _ _ (HS5.out) (fun hHeld => ?_)
              clear hK K
              try simp only [Act.put, List.setIfInBounds_toArray, List.set_cons_zero, List.set_cons_succ, List.getElem_toArray, List.getElem_cons_succ, List.getElem_cons_zero]
              have hh := FIN m2 m0 m1 m3 m4 (by have e0 := HM0.out; have e1 := HM1.out; have e2 := HM2.out; have e3 := HM3.out; have e4 := HM4.out; exact ⟨by omega, by omega⟩)
              apply hh
            · try simp only [List.getElem_toArray, List.getElem_cons_succ, List.getElem_cons_zero]
              go_simp
              refine hK.out _ _ (HS4.out) (fun hHeld => ?_)
              clear hK K
              try simp only [Act.put, List.setIfInBounds_toArray, List.set_cons_zero, List.set_cons_succ, List.getElem_toArray, List.getElem_cons_succ, List.getElem_cons_zero]
              refine wpAnyH_ready (rs := [8]) (by kernel_rfl) (by simp) (AllReadyH.cons rfl (fun K hK => ?_) (AllReadyH.nil))
              try simp only [List.getElem_toArray, List.getElem_cons_succ, List.getElem_cons_zero]
              go_simp
              refine hK.out _ _ (HS5.out) (fun hHeld => ?_)
              clear hK K
              try simp only [Act.put, List.setIfInBounds_toArray, List.set_cons_zero, List.set_cons_succ, List.getElem_toArray, List.getElem_cons_succ, List.getElem_cons_zero]
              have hh := FIN m2 m0 m1 m4 m3 (by have e0 := HM0.out; have e1 := HM1.out; have e2 := HM2.out; have e3 := HM3.out; have e4 := HM4.out; exact ⟨by omega, by omega⟩)
              apply hh
          · try simp only [List.getElem_toArray, List.getElem_cons_succ, List.getElem_cons_zero]
            go_simp
            refine hK.out _ _ (HS3.out) (fun hHeld => ?_)
            clear hK K
            try simp only [Act.put, List.setIfInBounds_toArray, List.set_cons_zero, List.set_cons_succ, List.getElem_toArray, List.getElem_cons_succ, List.getElem_cons_zero]
            refine wpAnyH_ready (rs := [5, 9]) (by kernel_rfl) (by simp) (AllReadyH.cons rfl (fun K hK => ?_) (AllReadyH.cons rfl (fun K hK => ?_) (AllReadyH.nil)))
            · try simp only [List.getElem_toArray, List.getElem_cons_succ, List.getElem_cons_zero]
              go_simp
              refine hK.out _ _ (HS4.out) (fun hHeld => ?_)
              clear hK K
              try simp only [Act.put, List.setIfInBounds_toArray, List.set_cons_zero, List.set_cons_succ, List.getElem_toArray, List.getElem_cons_succ, List.getElem_cons_zero]
              refine wpAnyH_ready (rs := [9]) (by kernel_rfl) (by simp) (AllReadyH.cons rfl (fun K hK => ?_) (AllReadyH.nil))
              try simp only [List.getElem_toArray, List.getElem_cons_succ, List.getElem_cons_zero]
              go_simp
              refine hK.out _ _ (HS5.out) (fun hHeld => ?_)
              clear hK K
              try simp only [Act.put, List.setIfInBounds_toArray, List.set_cons_zero, List.set_cons_succ, List.getElem_toArray, List.getElem_cons_succ, List.getElem_cons_zero]
              have hh := FIN m3 m0 m1 m2 m4 (by have e0 := HM0.out; have e1 := HM1.out; have e2 := HM2.out; have e3 := HM3.out; have e4 := HM4.out; exact ⟨by omega, by omega⟩)
              apply hh
            · try simp only [List.getElem_toArray, List.getElem_cons_succ, List.getElem_cons_zero]
              go_simp
              refine hK.out _ _ (HS4.out) (fun hHeld => ?_)
              clear hK K
              try simp only [Act.put, List.setIfInBounds_toArray, List.set_cons_zero, List.set_cons_succ, List.getElem_toArray, List.getElem_cons_succ, List.getElem_cons_zero]
              refine wpAnyH_ready (rs := [5]) (by kernel_rfl) (by simp) (AllReadyH.cons rfl (fun K hK => ?_) (AllReadyH.nil))
              try simp only [List.getElem_toArray, List.getElem_cons_succ, List.getElem_cons_zero]
              go_simp
              refine hK.out _ _ (HS5.out) (fun hHeld => ?_)
              clear hK K
              try simp only [Act.put, List.setIfInBounds_toArray, List.set_cons_zero, List.set_cons_succ, List.getElem_toArray, List.getElem_cons_succ, List.getElem_cons_zero]
              have hh := FIN m4 m0 m1 m2 m3 (by have e0 := HM0.out; have e1 := HM1.out; have e2 := HM2.out; have e3 := HM3.out; have e4 := HM4.out; exact ⟨by omega, by omega⟩)
              apply hh
          · try simp only [List.getElem_toArray, List.getElem_cons_succ, List.getElem_cons_zero]
            go_simp
            refine hK.out _ _ (HS3.out) (fun hHeld => ?_)
            clear hK K
            try simp only [Act.put, List.setIfInBounds_toArray, List.set_cons_zero, List.set_cons_succ, List.getElem_toArray, List.getElem_cons_succ, List.getElem_cons_zero]
            refine wpAnyH_ready (rs := [5, 8]) (by kernel_rfl) (by simp) (AllReadyH.cons rfl (fun K hK => ?_) (AllReadyH.cons rfl (fun K hK => ?_) (AllReadyH.nil)))
            · try simp only [List.getElem_toArray, List.getElem_cons_succ, List.getElem_cons_zero]
              go_simp
              refine hK.out _ _ (HS4.out) (fun hHeld => ?_)
              clear hK K
              try simp only [Act.put, List.setIfInBounds_toArray, List.set_cons_zero, List.set_cons_succ, List.getElem_toArray, List.getElem_cons_succ, List.getElem_cons_zero]
              refine wpAnyH_ready (rs := [8]) (by kernel_rfl) (by simp) (AllReadyH.cons rfl (fun K hK => ?_) (AllReadyH.nil))
              try simp only [List.getElem_toArray, List.getElem_cons_succ, List.getElem_cons_zero]
              go_simp
              refine hK.out _ _ (HS5.out) (fun hHeld => ?_)
              clear hK K
              try simp only [Act.put, List.setIfInBounds_toArray, List.set_cons_zero, List.set_cons_succ, List.getElem_toArray, List.getElem_cons_succ, List.getElem_cons_zero]
              have hh := FIN m3 m0 m1 m4 m2 (by have e0 := HM0.out; have e1 := HM1.out; have e2 := HM2.out; have e3 := HM3.out; have e4 := HM4.out; exact ⟨by omega, by omega⟩)
              apply hh
            · try simp only [List.getElem_toArray, List.getElem_cons_succ, List.getElem_cons_zero]
              go_simp
              refine hK.out _ _ (HS4.out) (fun hHeld => ?_)
              clear hK K
              try simp only [Act.put, List.setIfInBounds_toArray, List.set_cons_zero, List.set_cons_succ, List.getElem_toArray, List.getElem_cons_succ, List.getElem_cons_zero]
              refine wpAnyH_ready (rs := [5]) (by kernel_rfl) (by simp) (AllReadyH.cons rfl (fun K hK => ?_) (AllReadyH.nil))
              try simp only [List.getElem_toArray, List.getElem_cons_succ, List.getElem_cons_zero]
              go_simp
              refine hK.out _ _ (HS5.out) (fun hHeld => ?_)
              clear hK K
              try simp only [Act.put, List.setIfInBounds_toArray, List.set_cons_zero, List.set_cons_succ, List.getElem_toArray, List.getElem_cons_succ, List.getElem_cons_zero]
              have hh := FIN m4 m0 m1 m3 m2 (by have e0 := HM0.out; have e1 := HM1.out; have e2 := HM2.out; have e3 := HM3.out; have e4 := HM4.out; exact ⟨by omega, by omega⟩)
              apply hh
        · try simp only [List.getElem_toArray, List.getElem_cons_succ, List.getElem_cons_zero]
          go_simp
          refine hK.out _ _ (HS2.out) (fun hHeld => ?_)
          clear hK K
          try simp only [Act.put, List.setIfInBounds_toArray, List.set_cons_zero, List.set_cons_succ, List.getElem_toArray, List.getElem_cons_succ, List.getElem_cons_zero]
          refine wpAnyH_ready (rs := [5, 7, 9]) (by kernel_rfl) (by simp) (AllReadyH.cons rfl (fun K hK => ?_) (AllReadyH.cons rfl (fun K hK => ?_) (AllReadyH.cons rfl (fun K hK => ?_) (AllReadyH.nil))))
          · try simp only [List.getElem_toArray, List.getElem_cons_succ, List.getElem_cons_zero]
            go_simp
            refine hK.out _ _ (HS3.out) (fun hHeld => ?_)
            clear hK K
            try simp only [Act.put, List.setIfInBounds_toArray, List.set_cons_zero, List.set_cons_succ, List.getElem_toArray, List.getElem_cons_succ, List.getElem_cons_zero]
            refine wpAnyH_ready (rs := [7, 9]) (by kernel_rfl) (by simp) (AllReadyH.cons rfl (fun K hK => ?_) (AllReadyH.cons rfl (fun K hK => ?_) (AllReadyH.nil)))
            · try simp only [List.getElem_toArray, List.getElem_cons_succ, List.getElem_cons_zero]
              go_simp
              refine hK.out _ _ (HS4.out) (fun hHeld => ?_)
              clear hK K
              try simp only [Act.put, List.setIfInBounds_toArray, List.set_cons_zero, List.set_cons_succ, List.getElem_toArray, List.getElem_cons_succ, List.getElem_cons_zero]
              refine wpAnyH_ready (rs := [9]) (by kernel_rfl) (by simp) (AllReadyH.cons rfl (fun K hK => ?_) (AllReadyH.nil))
              try simp only [List.getElem_toArray, List.getElem_cons_succ, List.getElem_cons_zero]
              go_simp
              refine hK.out _ _ (HS5.out) (fun hHeld => ?_)
              clear hK K
              try simp only [Act.put, List.setIfInBounds_toArray, List.set_cons_zero, List.set_cons_succ, List.getElem_toArray, List.getElem_cons_succ, List.getElem_cons_zero]
              have hh := FIN m2 m0 m3 m1 m4 (by have e0 := HM0.out; have e1 := HM1.out; have e2 := HM2.out; have e3 := HM3.out; have e4 := HM4.out; exact ⟨by omega, by omega⟩)
              apply hh
            · try simp only [List.getElem_toArray, List.getElem_cons_succ, List.getElem_cons_zero]
              go_simp
              refine hK.out _ _ (HS4.out) (fun hHeld => ?_)
              clear hK K
              try simp only [Act.put, List.setIfInBounds_toArray, List.set_cons_zero, List.set_cons_succ, List.getElem_toArray, List.getElem_cons_succ, List.getElem_cons_zero]
              refine wpAnyH_ready (rs := [7]) (by kernel_rfl) (by simp) (AllReadyH.cons rfl (fun K hK => ?_) (AllReadyH.nil))
              try simp only [List.getElem_toArray, List.getElem_cons_succ, List.getElem_cons_zero]
              go_simp
              refine hK.out _ _ (HS5.out) (fun hHeld => ?_)
              clear hK K
              try simp only [Act.put, List.setIfInBounds_toArray, List.set_cons_zero, List.set_cons_succ, List.getElem_toArray, List.getElem_cons_succ, List.getElem_cons_zero]
              have hh := FIN m2 m0 m4 m1 m3 (by have e0 := HM0.out; have e1 := HM1.out; have e2 := HM2.out; have e3 := HM3.out; have e4 := HM4.out; exact ⟨by omega, by omega⟩)
              apply hh
          · try simp only [List.getElem_toArray, List.getElem_cons_succ, List.getElem_cons_zero]
            go_simp
            refine hK.out _ _ (HS3.out) (fun hHeld => ?_)
            clear hK K
            try simp only [Act.put, List.setIfInBounds_toArray, List.set_cons_zero, List.set_cons_succ, List.getElem_toArray, List.getElem_cons_succ, List.getElem_cons_zero]
            refine wpAnyH_ready (rs := [5, 9]) (by kernel_rfl) (by simp) (AllReadyH.cons rfl (fun K hK => ?_) (AllReadyH.cons rfl (fun K hK => ?_) (AllReadyH.nil)))
            · try simp only [List.getElem_toArray, List.getElem_cons_succ, List.getElem_cons_zero]
              go_simp
              refine hK.out _ _ (HS4.out) (fun hHeld => ?_)
              clear hK K
              try simp only [Act.put, List.setIfInBounds_toArray, List.set_cons_zero, List.set_cons_succ, List.getElem_toArray, List.getElem_cons_succ, List.getElem_cons_zero]
              refine wpAnyH_ready (rs := [9]) (by kernel_rfl) (by simp) (AllReadyH.cons rfl (fun K hK => ?_) (AllReadyH.nil))
              try simp only [List.getElem_toArray, List.getElem_cons_succ, List.getElem_cons_zero]
              go_simp
              refine hK.out _ _ (HS5.out) (fun hHeld => ?_)
              clear hK K
              try simp only [Act.put, List.setIfInBounds_toArray, List.set_cons_zero, List.set_cons_succ, List.getElem_toArray, List.getElem_cons_succ, List.getElem_cons_zero]
              have hh := FIN m3 m0 m2 m1 m4 (by have e0 := HM0.out; have e1 := HM1.out; have e2 := HM2.out; have e3 := HM3.out; have e4 := HM4.out; exact ⟨by omega, by omega⟩)
              apply hh
            · try simp only [List.getElem_toArray, List.getElem_cons_succ, List.getElem_cons_zero]
              go_simp
              refine hK.out _ _ (HS4.out) (fun hHeld => ?_)
              clear hK K
              try simp only [Act.put, List.setIfInBounds_toArray, List.set_cons_zero, List.set_cons_succ, List.getElem_toArray, List.getElem_cons_succ, List.getElem_cons_zero]
              refine wpAnyH_ready (rs := [5]) (by kernel_rfl) (by simp) (AllReadyH.cons rfl (fun K hK => ?_) (AllReadyH.nil))
              try simp only [List.getElem_toArray, List.getElem_cons_succ, List.getElem_cons_zero]
              go_simp
              refine hK.out _ _ (HS5.out) (fun hHeld => ?_)
              clear hK K
              try simp only [Act.put, List.setIfInBounds_toArray, List.set_cons_zero, List.set_cons_succ, List.getElem_toArray, List.getElem_cons_succ, List.getElem_cons_zero]
              have hh := FIN m4 m0 m2 m1 m3 (by have e0 := HM0.out; have e1 := HM1.out; have e2 := HM2.out; have e3 := HM3.out; have e4 := HM4.out; exact ⟨by omega, by omega⟩)
              apply hh
          · try simp only [List.getElem_toArray, List.getElem_cons_succ, List.getElem_cons_zero]
            go_simp
            refine hK.out _ _ (HS3.out) (fun hHeld => ?_)
            clear hK K
            try simp only [Act.put, List.setIfInBounds_toArray, List.set_cons_zero, List.set_cons_succ, List.getElem_toArray, List.getElem_cons_succ, List.getElem_cons_zero]
            refine wpAnyH_ready (rs := [5, 7]) (by kernel_rfl) (by simp) (AllReadyH.cons rfl (fun K hK => ?_) (AllReadyH.cons rfl (fun K hK => ?_) (AllReadyH.nil)))
            · try simp only [List.getElem_toArray, List.getElem_cons_succ, List.getElem_cons_zero]
              go_simp
              refine hK.out _ _ (HS4.out) (fun hHeld => ?_)
              clear hK K
              try simp only [Act.put, List.setIfInBounds_toArray, List.set_cons_zero, List.set_cons_succ, List.getElem_toArray, List.getElem_cons_succ, List.getElem_cons_zero]
              refine wpAnyH_ready (rs := [7]) (by kernel_rfl) (by simp) (AllReadyH.cons rfl (fun K hK => ?_) (AllReadyH.nil))
              try simp only [List.getElem_toArray, List.getElem_cons_succ, List.getElem_cons_zero]
              go_simp
              refine hK.out _ _ (HS5.out) (fun hHeld => ?_)
              clear hK K
              try simp only [Act.put, List.setIfInBounds_toArray, List.set_cons_zero, List.set_cons_succ, List.getElem_toArray, List.getElem_cons_succ, List.getElem_cons_zero]
              have hh := FIN m3 m0 m4 m1 m2 (by have e0 := HM0.out; have e1 := HM1.out; have e2 := HM2.out; have e3 := HM3.out; have e4 := HM4.out; exact ⟨by omega, by omega⟩)
              apply hh
            · try simp only [List.getElem_toArray, List.getElem_cons_succ, List.getElem_cons_zero]
              go_simp
              refine hK.out _ _ (HS4.out) (fun hHeld => ?_)
              clear hK K
              try simp only [Act.put, List.setIfInBounds_toArray, List.set_cons_zero, List.set_cons_succ, List.getElem_toArray, List.getElem_cons_succ, List.getElem_cons_zero]
              refine wpAnyH_ready (rs := [5]) (by kernel_rfl) (by simp) (AllReadyH.cons rfl (fun K hK => ?_) (AllReadyH.nil))
              try simp only [List.getElem_toArray, List.getElem_cons_succ, List.getElem_cons_zero]
              go_simp
              refine hK.out _ _ (HS5.out) (fun hHeld => ?_)
              clear hK K
              try simp only [Act.put, List.setIfInBounds_toArray, List.set_cons_zero, List.set_cons_succ, List.getElem_toArray, List.getElem_cons_succ, List.getElem_cons_zero]
              have hh := FIN m4 m0 m3 m1 m2 (by have e0 := HM0.out; have e1 := HM1.out; have e2 := HM2.out; have e3 := HM3.out; have e4 := HM4.out; exact ⟨by omega, by omega⟩)
              apply hh
        · try simp only [List.getElem_toArray, List.getElem_cons_succ, List.getElem_cons_zero]
          go_simp
          refine hK.out _ _ (HS2.out) (fun hHeld => ?_)
          clear hK K
          try simp only [Act.put, List.setIfInBounds_toArray, List.set_cons_zero, List.set_cons_succ, List.getElem_toArray, List.getElem_cons_succ, List.getElem_cons_zero]
          refine wpAnyH_ready (rs := [5, 7, 8]) (by kernel_rfl) (by simp) (AllReadyH.cons rfl (fun K hK => ?_) (AllReadyH.cons rfl (fun K hK => ?_) (AllReadyH.cons rfl (fun K hK => ?_) (AllReadyH.nil))))
          · try simp only [List.getElem_toArray, List.getElem_cons_succ, List.getElem_cons_zero]
            go_simp
            refine hK.out _ _ (HS3.out) (fun hHeld => ?_)
            clear hK K
            try simp only [Act.put, List.setIfInBounds_toArray, List.set_cons_zero, List.set_cons_succ, List.getElem_toArray, List.getElem_cons_succ, List.getElem_cons_zero]
            refine wpAnyH_ready (rs := [7, 8]) (by kernel_rfl) (by simp) (AllReadyH.cons rfl (fun K hK => ?_) (AllReadyH.cons rfl (fun K hK => ?_) (AllReadyH.nil)))
            · try simp only [List.getElem_toArray, List.getElem_cons_succ, List.getElem_cons_zero]
              go_simp
              refine hK.out _ _ (HS4.out) (fun hHeld => ?_)
              clear hK K
              try simp only [Act.put, List.setIfInBounds_toArray, List.set_cons_zero, List.set_cons_succ, List.getElem_toArray, List.getElem_cons_succ, List.getElem_cons_zero]
              refine wpAnyH_ready (rs := [8]) (by kernel_rfl) (by simp) (AllReadyH.cons rfl (fun K hK => ?_) (AllReadyH.nil))
              try simp only [List.getElem_toArray, List.getElem_cons_succ, List.getElem_cons_zero]
              go_simp
              refine hK.out _ _ (HS5.out) (fun hHeld => ?_)
              clear hK K
              try simp only [Act.put, List.setIfInBounds_toArray, List.set_cons_zero, List.set_cons_succ, List.getElem_toArray, List.getElem_cons_succ, List.getElem_cons_zero]
              have hh := FIN m2 m0 m3 m4 m1 (by have e0 := HM0.out; have e1 := HM1.out; have e2 := HM2.out; have e3 := HM3.out; have e4 := HM4.out; exact ⟨by omega, by omega⟩)
              apply hh
            · try simp only [List.getElem_toArray, List.getElem_cons_succ, List.getElem_cons_zero]
              go_simp
              refine hK.out _ _ (HS4.out) (fun hHeld => ?_)
              clear hK K
              try simp only [Act.put, List.setIfInBounds_toArray, List.set_cons_zero, List.set_cons_succ, List.getElem_toArray, List.getElem_cons_succ, List.getElem_cons_zero]
              refine wpAnyH_ready (rs := [7]) (by kernel_rfl) (by simp) (AllReadyH.cons rfl (fun K hK => ?_) (AllReadyH.nil))
              try simp only [List.getElem_toArray, List.getElem_cons_succ, List.getElem_cons_zero]
              go_simp
              refine hK.out _ _ (HS5.out) (fun hHeld => ?_)
              clear hK K
              try simp only [Act.put, List.setIfInBounds_toArray, List.set_cons_zero, List.set_cons_succ, List.getElem_toArray, List.getElem_cons_succ, List.getElem_cons_zero]
              have hh := FIN m2 m0 m4 m3 m1 (by have e0 := HM0.out; have e1 := HM1.out; have e2 := HM2.out; have e3 := HM3.out; have e4 := HM4.out; exact ⟨by omega, by omega⟩)
              apply hh
          · try simp only [List.getElem_toArray, List.getElem_cons_succ, List.getElem_cons_zero]
            go_simp
            refine hK.out _ _ (HS3.out) (fun hHeld => ?_)
            clear hK K
            try simp only [Act.put, List.setIfInBounds_toArray, List.set_cons_zero, List.set_cons_succ, List.getElem_toArray, List.getElem_cons_succ, List.getElem_cons_zero]
            refine wpAnyH_ready (rs := [5, 8]) (by kernel_rfl) (by simp) (AllReadyH.cons rfl (fun K hK => ?_) (AllReadyH.cons rfl (fun K hK => ?_) (AllReadyH.nil)))
            · try simp only [List.getElem_toArray, List.getElem_cons_succ, List.getElem_cons_zero]
              go_simp
              refine hK.out _ _ (HS4.out) (fun hHeld => ?_)
              clear hK K
              try simp only [Act.put, List.setIfInBounds_toArray, List.set_cons_zero, List.set_cons_succ, List.getElem_toArray, List.getElem_cons_succ, List.getElem_cons_zero]
              refine wpAnyH_ready (rs := [8]) (by kernel_rfl) (by simp) (AllReadyH.cons rfl (fun K hK => ?_) (AllReadyH.nil))
              try simp only [List.getElem_toArray, List.getElem_cons_succ, List.getElem_cons_zero]
              go_simp
              refine hK.out _ _ (HS5.out) (fun hHeld => ?_)
              clear hK K
              try simp only [Act.put, List.setIfInBounds_toArray, List.set_cons_zero, List.set_cons_succ, List.getElem_toArray, List.getElem_cons_succ, List.getElem_cons_zero]
              have hh := FIN m3 m0 m2 m4 m1 (by have e0 := HM0.out; have e1 := HM1.out; have e2 := HM2.out; have e3 := HM3.out; have e4 := HM4.out; exact ⟨by omega, by omega⟩)
              apply hh
            · try simp only [List.getElem_toArray, List.getElem_cons_succ, List.getElem_cons_zero]
              go_simp
              refine hK.out _ _ (HS4.out) (fun hHeld => ?_)
              clear hK K
              try simp only [Act.put, List.setIfInBounds_toArray, List.set_cons_zero, List.set_cons_succ, List.getElem_toArray, List.getElem_cons_succ, List.getElem_cons_zero]
              refine wpAnyH_ready (rs := [5]) (by kernel_rfl) (by simp) (AllReadyH.cons rfl (fun K hK => ?_) (AllReadyH.nil))
              try simp only [List.getElem_toArray, List.getElem_cons_succ, List.getElem_cons_zero]
              go_simp
              refine hK.out _ _ (HS5.out) (fun hHeld => ?_)
              clear hK K
              try simp only [Act.put, List.setIfInBounds_toArray, List.set_cons_zero, List.set_cons_succ, List.getElem_toArray, List.getElem_cons_succ, List.getElem_cons_zero]
              have hh := FIN m4 m0 m2 m3 m1 (by have e0 := HM0.out; have e1 := HM1.out; have e2 := HM2.out; have e3 := HM3.out; have e4 := HM4.out; exact ⟨by omega, by omega⟩)
              apply hh
          · try simp only [List.getElem_toArray, List.getElem_cons_succ, List.getElem_cons_zero]
            go_simp
            refine hK.out _ _ (HS3.out) (fun hHeld => ?_)
            clear hK K
            try simp only [Act.put, List.setIfInBounds_toArray, List.set_cons_zero, List.set_cons_succ, List.getElem_toArray, List.getElem_cons_succ, List.getElem_cons_zero]
            refine wpAnyH_ready (rs := [5, 7]) (by kernel_rfl) (by simp) (AllReadyH.cons rfl (fun K hK => ?_) (AllReadyH.cons rfl (fun K hK => ?_) (AllReadyH.nil)))
            · try simp only [List.getElem_toArray, List.getElem_cons_succ, List.getElem_cons_zero]
              go_simp
              refine hK.out _ _ (HS4.out) (fun hHeld => ?_)
              clear hK K
              try simp only [Act.put, List.setIfInBounds_toArray, List.set_cons_zero, List.set_cons_succ, List.getElem_toArray, List.getElem_cons_succ, List.getElem_cons_zero]
              refine wpAnyH_ready (rs := [7]) (by kernel_rfl) (by simp) (AllReadyH.cons rfl (fun K hK => ?_) (AllReadyH.nil))
              try simp only [List.getElem_toArray, List.getElem_cons_succ, List.getElem_cons_zero]
              go_simp
              refine hK.out _ _ (HS5.out) (fun hHeld => ?_)
              clear hK K
              try simp only [Act.put, List.setIfInBounds_toArray, List.set_cons_zero, List.set_cons_succ, List.getElem_toArray, List.getElem_cons_succ, List.getElem_cons_zero]
              have hh := FIN m3 m0 m4 m2 m1 (by have e0 := HM0.out; have e1 := HM1.out; have e2 := HM2.out; have e3 := HM3.out; have e4 := HM4.out; exact ⟨by omega, by omega⟩)
              apply hh
            · try simp only [List.getElem_toArray, List.getElem_cons_succ, List.getElem_cons_zero]
              go_simp
              refine hK.out _ _ (HS4.out) (fun hHeld => ?_)
              clear hK K
              try simp only [Act.put, List.setIfInBounds_toArray, List.set_cons_zero, List.set_cons_succ, List.getElem_toArray, List.getElem_cons_succ, List.getElem_cons_zero]
              refine wpAnyH_ready (rs := [5]) (by kernel_rfl) (by simp) (AllReadyH.cons rfl (fun K hK => ?_) (AllReadyH.nil))
              try simp only [List.getElem_toArray, List.getElem_cons_succ, List.getElem_cons_zero]
              go_simp
              refine hK.out _ _ (HS5.out) (fun hHeld => ?_)
              clear hK K
              try simp only [Act.put, List.setIfInBounds_toArray, List.set_cons_zero, List.set_cons_succ, List.getElem_toArray, List.getElem_cons_succ, List.getElem_cons_zero]
              have hh := FIN m4 m0 m3 m2 m1 (by have e0 := HM0.out; have e1 := HM1.out; have e2 := HM2.out; have e3 := HM3.out; have e4 := HM4.out; exact ⟨by omega, by omega⟩)
              apply hh
      · try simp only [List.getElem_toArray, List.getElem_cons_succ, List.getElem_cons_zero]
        go_simp
        refine hK.out _ _ (HS1.out) (fun hHeld => ?_)
        clear hK K
        try simp only [Act.put, List.setIfInBounds_toArray, List.set_cons_zero, List.set_cons_succ, List.getElem_toArray, List.getElem_cons_succ, List.getElem_cons_zero]
        refine wpAnyH_ready (rs := [5, 6, 8, 9]) (by kernel_rfl) (by simp) (AllReadyH.cons rfl (fun K hK => ?_) (AllReadyH.cons rfl (fun K hK => ?_) (AllReadyH.cons rfl (fun K hK => ?_) (AllReadyH.cons rfl (fun K hK => ?_) (AllReadyH.nil)))))
        · try simp only [List.getElem_toArray, List.getElem_cons_succ, List.getElem_cons_zero]
          go_simp
          refine hK.out _ _ (HS2.out) (fun hHeld => ?_)
          clear hK K
          try simp only [Act.put, List.setIfInBounds_toArray, List.set_cons_zero, List.set_cons_succ, List.getElem_toArray, List.getElem_cons_succ, List.getElem_cons_zero]
          refine wpAnyH_ready (rs := [6, 8, 9]) (by kernel_rfl) (by simp) (AllReadyH.cons rfl (fun K hK => ?_) (AllReadyH.cons rfl (fun K hK => ?_) (AllReadyH.cons rfl (fun K hK => ?_) (AllReadyH.nil))))
          · try simp only [List.getElem_toArray, List.getElem_cons_succ, List.getElem_cons_zero]
            go_simp
            refine hK.out _ _ (HS3.out) (fun hHeld => ?_)
            clear hK K
            try simp only [Act.put, List.setIfInBounds_toArray, List.set_cons_zero, List.set_cons_succ, List.getElem_toArray, List.getElem_cons_succ, List.getElem_cons_zero]
            refine wpAnyH_ready (rs := [8, 9]) (by kernel_rfl) (by simp) (AllReadyH.cons rfl (fun K hK => ?_) (AllReadyH.cons rfl (fun K hK => ?_) (AllReadyH.nil)))
            · try simp only [List.getElem_toArray, List.getElem_cons_succ, List.getElem_cons_zero]
              go_simp
              refine hK.out _ _ (HS4.out) (fun hHeld => ?_)
              clear hK K
              try simp only [Act.put, List.setIfInBounds_toArray, List.set_cons_zero, List.set_cons_succ, List.getElem_toArray, List.getElem_cons_succ, List.getElem_cons_zero]
              refine wpAnyH_ready (rs := [9]) (by kernel_rfl) (by simp) (AllReadyH.cons rfl (fun K hK => ?_) (AllReadyH.nil))
              try simp only [List.getElem_toArray, List.getElem_cons_succ, List.getElem_cons_zero]
              go_simp
              refine hK.out _ _ (HS5.out) (fun hHeld => ?_)
              clear hK K
              try simp only [Act.put, List.setIfInBounds_toArray, List.set_cons_zero, List.set_cons_succ, List.getElem_toArray, List.getElem_cons_succ, List.getElem_cons_zero]
              have hh := FIN m1 m2 m0 m3 m4 (by have e0 := HM0.out; have e1 := HM1.out; have e2 := HM2.out; have e3 := HM3.out; have e4 := HM4.out; exact ⟨by omega, by omega⟩)
              apply hh
            · try simp only [List.getElem_toArray, List.getElem_cons_succ, List.getElem_cons_zero]
              go_simp
              refine hK.out _ _ (HS4.out) (fun hHeld => ?_)
              clear hK K
              try simp only [Act.put, List.setIfInBounds_toArray, List.set_cons_zero, List.set_cons_succ, List.getElem_toArray, List.getElem_cons_succ, List.getElem_cons_zero]
              refine wpAnyH_ready (rs := [8]) (by kernel_rfl) (by simp) (AllReadyH.cons rfl (fun K hK => ?_) (AllReadyH.nil))
              try simp only [List.getElem_toArray, List.getElem_cons_succ, List.getElem_cons_zero]
              go_simp
              refine hK.out _ _ (HS5.out) (fun hHeld => ?_)
              clear hK K
              try simp only [Act.put, List.setIfInBounds_toArray, List.set_cons_zero, List.set_cons_succ, List.getElem_toArray, List.getElem_cons_succ, List.getElem_cons_zero]
              have hh := FIN m1 m2 m0 m4 m3 (by have e0 := HM0.out; have e1 := HM1.out; have e2 := HM2.out; have e3 := HM3.out; have e4 := HM4.out; exact ⟨by omega, by omega⟩)
              apply hh
          · try simp only [List.getElem_toArray, List.getElem_cons_succ, List.getElem_cons_zero]
            go_simp
            refine hK.out _ _ (HS3.out) (fun hHeld => ?_)
            clear hK K
            try simp only [Act.put, List.setIfInBounds_toArray, List.set_cons_zero, List.set_cons_succ, List.getElem_toArray, List.getElem_cons_succ, List.getElem_cons_zero]
            refine wpAnyH_ready (rs := [6, 9]) (by kernel_rfl) (by simp) (AllReadyH.cons rfl (fun K hK => ?_) (AllReadyH.cons rfl (fun K hK => ?_) (AllReadyH.nil)))
            · try simp only [List.getElem_toArray, List.getElem_cons_succ, List.getElem_cons_zero]
              go_simp
              refine hK.out _ _ (HS4.out) (fun hHeld => ?_)
              clear hK K
              try simp only [Act.put, List.setIfInBounds_toArray, List.set_cons_zero, List.set_cons_succ, List.getElem_toArray, List.getElem_cons_succ, List.getElem_cons_zero]
              refine wpAnyH_ready (rs := [9]) (by kernel_rfl) (by simp) (AllReadyH.cons rfl (fun K hK => ?_) (AllReadyH.nil))
              try simp only [List.getElem_toArray, List.getElem_cons_succ, List.getElem_cons_zero]
              go_simp
              refine hK.out _ _ (HS5.out) (fun hHeld => ?_)
              clear hK K
              try simp only [Act.put, List.setIfInBounds_toArray, List.set_cons_zero, List.set_cons_succ, List.getElem_toArray, List.getElem_cons_succ, List.getElem_cons_zero]
              have hh := FIN m1 m3 m0 m2 m4 (by have e0 := HM0.out; have e1 := HM1.out; have e2 := HM2.out; have e3 := HM3.out; have e4 := HM4.out; exact ⟨by omega, by omega⟩)
              apply hh
            · try simp only [List.getElem_toArray, List.getElem_cons_succ, List.getElem_cons_zero]
              go_simp
              refine hK.out _ _ (HS4.out) (fun hHeld => ?_)
              clear hK K
              try simp only [Act.put, List.setIfInBounds_toArray, List.set_cons_zero, List.set_cons_succ, List.getElem_toArray, List.getElem_cons_succ, List.getElem_cons_zero]
              refine wpAnyH_ready (rs := [6]) (by kernel_rfl) (by simp) (AllReadyH.cons rfl (fun K hK => ?_) (AllReadyH.nil))
              try simp only [List.getElem_toArray, List.getElem_cons_succ, List.getElem_cons_zero]
              go_simp
              refine hK.out _ _ (HS5.out) (fun hHeld => ?_)
              clear hK K
              try simp only [Act.put, List.setIfInBounds_toArray, List.set_cons_zero, List.set_cons_succ, List.getElem_toArray, List.getElem_cons_succ, List.getElem_cons_zero]
              have hh := FIN m1 m4 m0 m2 m3 (by have e0 := HM0.out; have e1 := HM1.out; have e2 := HM2.out; have e3 := HM3.out; have e4 := HM4.out; exact ⟨by omega, by omega⟩)
              apply hh
          · try simp only [List.getElem_toArray, List.getElem_cons_succ, List.getElem_cons_zero]
            go_simp
            refine hK.out _ _ (HS3.out) (fun hHeld => ?_)
            clear hK K
            try simp only [Act.put, List.setIfInBounds_toArray, List.set_cons_zero, List.set_cons_succ, List.getElem_toArray, List.getElem_cons_succ, List.getElem_cons_zero]
            refine wpAnyH_ready (rs := [6, 8]) (by kernel_rfl) (by simp) (AllReadyH.cons rfl (fun K hK => ?_) (AllReadyH.cons rfl (fun K hK => ?_) (AllReadyH.nil)))
            · try simp only [List.getElem_toArray, List.getElem_cons_succ, List.getElem_cons_zero]
              go_simp
              refine hK.out _ _ (HS4.out) (fun hHeld => ?_)
              clear hK K
              try simp only [Act.put, List.setIfInBounds_toArray, List.set_cons_zero, List.set_cons_succ, List.getElem_toArray, List.getElem_cons_succ, List.getElem_cons_zero]
              refine wpAnyH_ready (rs := [8]) (by kernel_rfl) (by simp) (AllReadyH.cons rfl (fun K hK => ?_) (AllReadyH.nil))
              try simp only [List.getElem_toArray, List.getElem_cons_succ, List.getElem_cons_zero]
              go_simp
              refine hK.out _ _ (HS5.out) (fun hHeld => ?_)
              clear hK K
              try simp only [Act.put, List.setIfInBounds_toArray, List.set_cons_zero, List.set_cons_succ, List.getElem_toArray, List.getElem_cons_succ, List.getElem_cons_zero]
              have hh := FIN m1 m3 m0 m4 m2 (by have e0 := HM0.out; have e1 := HM1.out; have e2 := HM2.out; have e3 := HM3.out; have e4 := HM4.out; exact ⟨by omega, by omega⟩)
              apply hh
            · try simp only [List.getElem_toArray, List.getElem_cons_succ, List.getElem_cons_zero]
              go_simp
              refine hK.out _ _ (HS4.out) (fun hHeld => ?_)
              clear hK K
              try simp only [Act.put, List.setIfInBounds_toArray, List.set_cons_zero, List.set_cons_succ, List.getElem_toArray, List.getElem_cons_succ, List.getElem_cons_zero]
              refine wpAnyH_ready (rs := [6]) (by kernel_rfl) (by simp) (AllReadyH.cons rfl (fun K hK => ?_) (AllReadyH.nil))
              try simp only [List.getElem_toArray, List.getElem_cons_succ, List.getElem_cons_zero]
              go_simp
              refine hK.out _ _ (HS5.out) (fun hHeld => ?_)
              clear hK K
              try simp only [Act.put, List.setIfInBounds_toArray, List.set_cons_zero, List.set_cons_succ, List.getElem_toArray, List.getElem_cons_succ, List.getElem_cons_zero]
              have hh := FIN m1 m4 m0 m3 m2 (by have e0 := HM0.out; have e1 := HM1.out; have e2 := HM2.out; have e3 := HM3.out; have e4 := HM4.out; exact ⟨by omega, by omega⟩)
              apply hh
        · try simp only [List.getElem_toArray, List.getElem_cons_succ, List.getElem_cons_zero]
          go_simp
          refine hK.out _ _ (HS2.out) (fun hHeld => ?_)
          clear hK K
          try simp only [Act.put, List.setIfInBounds_toArray, List.set_cons_zero, List.set_cons_succ, List.getElem_toArray, List.getElem_cons_succ, List.getElem_cons_zero]
          refine wpAnyH_ready (rs := [5, 8, 9]) (by kernel_rfl) (by simp) (AllReadyH.cons rfl (fun K hK => ?_) (AllReadyH.cons rfl (fun K hK => ?_) (AllReadyH.cons rfl (fun K hK => ?_) (AllReadyH.nil))))
          · try simp only [List.getElem_toArray, List.getElem_cons_succ, List.getElem_cons_zero]
            go_simp
            refine hK.out _ _ (HS3.out) (fun hHeld => ?_)
            clear hK K
            try simp only [Act.put, List.setIfInBounds_toArray, List.set_cons_zero, List.set_cons_succ, List.getElem_toArray, List.getElem_cons_succ, List.getElem_cons_zero]
            refine wpAnyH_ready (rs := [8, 9]) (by kernel_rfl) (by simp) (AllReadyH.cons rfl (fun K hK => ?_) (AllReadyH.cons rfl (fun K hK => ?_) (AllReadyH.nil)))
            · try simp only [List.getElem_toArray, List.getElem_cons_succ, List.getElem_cons_zero]
              go_simp
              refine hK.out _ _ (HS4.out) (fun hHeld => ?_)
              clear hK K
              try simp only [Act.put, List.setIfInBounds_toArray, List.set_cons_zero, List.set_cons_succ, List.getElem_toArray, List.getElem_cons_succ, List.getElem_cons_zero]
              refine wpAnyH_ready (rs := [9]) (by kernel_rfl) (by simp) (AllReadyH.cons rfl (fun K hK => ?_) (AllReadyH.nil))
              try simp only [List.getElem_toArray, List.getElem_cons_succ, List.getElem_cons_zero]
              go_simp
              refine hK.out _ _ (HS5.out) (fun hHeld => ?_)
              clear hK K
              try simp only [Act.put, List.setIfInBounds_toArray, List.set_cons_zero, List.set_cons_succ, List.getElem_toArray, List.getElem_cons_succ, List.getElem_cons_zero]
              have hh := FIN m2 m1 m0 m3 m4 (by have e0 := HM0.out; have e1 := HM1.out; have e2 := HM2.out; have e3 := HM3.out; have e4 := HM4.out; exact ⟨by omega, by omega⟩)
              apply hh
            · try simp only [List.getElem_toArray, List.getElem_cons_succ, List.getElem_cons_zero]
              go_simp
              refine hK.out _ _ (HS4.out) (fun hHeld => ?_)
              clear hK K
              try simp only [Act.put, List.setIfInBounds_toArray, List.set_cons_zero, List.set_cons_succ, List.getElem_toArray, List.getElem_cons_succ, List.getElem_cons_zero]
              refine wpAnyH_ready (rs := [8]) (by kernel_rfl) (by simp) (AllReadyH.cons rfl (fun K hK => ?_) (AllReadyH.nil))
              try simp only [List.getElem_toArray, List.getElem_cons_succ, List.getElem_cons_zero]
              go_simp
              refine hK.out _ _ (HS5.out) (fun hHeld => ?_)
              clear hK K
              try simp only [Act.put, List.setIfInBounds_toArray, List.set_cons_zero, List.set_cons_succ, List.getElem_toArray, List.getElem_cons_succ, List.getElem_cons_zero]
              have hh := FIN m2 m1 m0 m4 m3 (by have e0 := HM0.out; have e1 := HM1.out; have e2 := HM2.out; have e3 := HM3.out; have e4 := HM4.out; exact ⟨by omega, by omega⟩)
              apply hh
          · try simp only [List.getElem_toArray, List.getElem_cons_succ, List.getElem_cons_zero]
            go_simp
            refine hK.out _ _ (HS3.out) (fun hHeld => ?_)
            clear hK K
            try simp only [Act.put, List.setIfInBounds_toArray, List.set_cons_zero, List.set_cons_succ, List.getElem_toArray, List.getElem_cons_succ, List.getElem_cons_zero]
            refine wpAnyH_ready (rs := [5, 9]) (by kernel_rfl) (by simp) (AllReadyH.cons rfl (fun K hK => ?_) (AllReadyH.cons rfl (fun K hK => ?_) (AllReadyH.nil)))
            · try simp only [List.getElem_toArray, List.getElem_cons_succ, List.getElem_cons_zero]
              go_simp
              refine hK.out _ _ (HS4.out) (fun hHeld => ?_)
              clear hK K
              try simp only [Act.put, List.setIfInBounds_toArray, List.set_cons_zero, List.set_cons_succ, List.getElem_toArray, List.getElem_cons_succ, List.getElem_cons_zero]
              refine wpAnyH_ready (rs := [9]) (by kernel_rfl) (by simp) (AllReadyH.cons rfl (fun K hK => ?_) (AllReadyH.nil))
              try simp only [List.getElem_toArray, List.getElem_cons_succ, List.getElem_cons_zero]
              go_simp
              refine hK.out _ _ (HS5.out) (fun hHeld => ?_)
              clear hK K
              try simp only [Act.put, List.setIfInBounds_toArray, List.set_cons_zero, List.set_cons_succ, List.getElem_toArray, List.getElem_cons_succ, List.getElem_cons_zero]
              have hh := FIN m3 m1 m0 m2 m4 (by have e0 := HM0.out; have e1 := HM1.out; have e2 := HM2.out; have e3 := HM3.out; have e4 := HM4.out; exact ⟨by omega, by omega⟩)
              apply hh
            · try simp only [List.getElem_toArray, List.getElem_cons_succ, List.getElem_cons_zero]
              go_simp
              refine hK.out _ _ (HS4.out) (fun hHeld => ?_)
              clear hK K
              try simp only [Act.put, List.setIfInBounds_toArray, List.set_cons_zero, List.set_cons_succ, List.getElem_toArray, List.getElem_cons_succ, List.getElem_cons_zero]
              refine wpAnyH_ready (rs := [5]) (by kernel_rfl) (by simp) (AllReadyH.cons rfl (fun K hK => ?_) (AllReadyH.nil))
              try simp only [List.getElem_toArray, List.getElem_cons_succ, List.getElem_cons_zero]
              go_simp
              refine hK.out _ _ (HS5.out) (fun hHeld => ?_)
              clear hK K
              try simp only [Act.put, List.setIfInBounds_toArray, List.set_cons_zero, List.set_cons_succ, List.getElem_toArray, List.getElem_cons_succ, List.getElem_cons_zero]
              have hh := FIN m4 m1 m0 m2 m3 (by have e0 := HM0.out; have e1 := HM1.out; have e2 := HM2.out; have e3 := HM3.out; have e4 := HM4.out; exact ⟨by omega, by omega⟩)
              apply hh
          · try simp only [List.getElem_toArray, List.getElem_cons_succ, List.getElem_cons_zero]
            go_simp
            refine hK.out _ _ (HS3.out) (fun hHeld => ?_)
            clear hK K
            try simp only [Act.put, List.setIfInBounds_toArray, List.set_cons_zero, List.set_cons_succ, List.getElem_toArray, List.getElem_cons_succ, List.getElem_cons_zero]
            refine wpAnyH_ready (rs := [5, 8]) (by kernel_rfl) (by simp) (AllReadyH.cons rfl (fun K hK => ?_) (AllReadyH.cons rfl (fun K hK => ?_) (AllReadyH.nil)))
            · try simp only [List.getElem_toArray, List.getElem_cons_succ, List.getElem_cons_zero]
              go_simp
              refine hK.out _ _ (HS4.out) (fun hHeld => ?_)
              clear hK K
              try simp only [Act.put, List.setIfInBounds_toArray, List.set_cons_zero, List.set_cons_succ, List.getElem_toArray, List.getElem_cons_succ, List.getElem_cons_zero]
              refine wpAnyH_ready (rs := [8]) (by kernel_rfl) (by simp) (AllReadyH.cons rfl (fun K hK => ?_) (AllReadyH.nil))
              try simp only [List.getElem_toArray, List.getElem_cons_succ, List.getElem_cons_zero]
              go_simp
              refine hK.out _ _ (HS5.out) (fun hHeld => ?_)
              clear hK K
              try simp only [Act.put, List.setIfInBounds_toArray, List.set_cons_zero, List.set_cons_succ, List.getElem_toArray, List.getElem_cons_succ, List.getElem_cons_zero]
              have hh := FIN m3 m1 m0 m4 m2 (by have e0 := HM0.out; have e1 := HM1.out; have e2 := HM2.out; have e3 := HM3.out; have e4 := HM4.out; exact ⟨by omega, by omega⟩)
              apply hh
            · try simp only [List.getElem_toArray, List.getElem_cons_succ, List.getElem_cons_zero]
              go_simp
              refine hK.out _ _ (HS4.out) (fun hHeld => ?_)
              clear hK K
              try simp only [Act.put, List.setIfInBounds_toArray, List.set_cons_zero, List.set_cons_succ, List.getElem_toArray, List.getElem_cons_succ, List.getElem_cons_zero]
              refine wpAnyH_ready (rs := [5]) (by kernel_rfl) (by simp) (AllReadyH.cons rfl (fun K hK => ?_) (AllReadyH.nil))
              try simp only [List.getElem_toArray, List.getElem_cons_succ, List.getElem_cons_zero]
              go_simp
              refine hK.out _ _ (HS5.out) (fun hHeld => ?_)
              clear hK K
              try simp only [Act.put, List.setIfInBounds_toArray, List.set_cons_zero, List.set_cons_succ, List.getElem_toArray, List.getElem_cons_succ, List.getElem_cons_zero]
              have hh := FIN m4 m1 m0 m3 m2 (by have e0 := HM0.out; have e1 := HM1.out; have e2 := HM2.out; have e3 := HM3.out; have e4 := HM4.out; exact ⟨by omega, by omega⟩)
              apply hh
        · try simp only [List.getElem_toArray, List.getElem_cons_succ, List.getElem_cons_zero]
          go_simp
          refine hK.out _ _ (HS2.out) (fun hHeld => ?_)
          clear hK K
          try simp only [Act.put, List.setIfInBounds_toArray, List.set_cons_zero, List.set_cons_succ, List.getElem_toArray, List.getElem_cons_succ, List.getElem_cons_zero]
          refine wpAnyH_ready (rs := [5, 6, 9]) (by kernel_rfl) (by simp) (AllReadyH.cons rfl (fun K hK => ?_) (AllReadyH.cons rfl (fun K hK => ?_) (AllReadyH.cons rfl (fun K hK => ?_) (AllReadyH.nil))))
          · try simp only [List.getElem_toArray, List.getElem_cons_succ, List.getElem_cons_zero]
            go_simp
            refine hK.out _ _ (HS3.out) (fun hHeld => ?_)
            clear hK K
            try simp only [Act.put, List.setIfInBounds_toArray, List.set_cons_zero, List.set_cons_succ, List.getElem_toArray, List.getElem_cons_succ, List.getElem_cons_zero]
            refine wpAnyH_ready (rs := [6, 9]) (by kernel_rfl) (by simp) (AllReadyH.cons rfl (fun K hK => ?_) (AllReadyH.cons rfl (fun K hK => ?_) (AllReadyH.nil)))
            · try simp only [List.getElem_toArray, List.getElem_cons_succ, List.getElem_cons_zero]
              go_simp
              refine hK.out _ _ (HS4.out) (fun hHeld => ?_)
              clear hK K
              try simp only [Act.put, List.setIfInBounds_toArray, List.set_cons_zero, List.set_cons_succ, List.getElem_toArray, List.getElem_cons_succ, List.getElem_cons_zero]
              refine wpAnyH_ready (rs := [9]) (by kernel_rfl) (by simp) (AllReadyH.cons rfl (fun K hK => ?_) (AllReadyH.nil))
              try simp only [List.getElem_toArray, List.getElem_cons_succ, List.getElem_cons_zero]
              go_simp
              refine hK.out _ _ (HS5.out) (fun hHeld => ?_)
              clear hK K
              try simp only [Act.put, List.setIfInBounds_toArray, List.set_cons_zero, List.set_cons_succ, List.getElem_toArray, List.getElem_cons_succ, List.getElem_cons_zero]
              have hh := FIN m2 m3 m0 m1 m4 (by have e0 := HM0.out; have e1 := HM1.out; have e2 := HM2.out; have e3 := HM3.out; have e4 := HM4.out; exact ⟨by omega, by omega⟩)
              apply hh
            · try simp only [List.getElem_toArray, List.getElem_cons_succ, List.getElem_cons_zero]
              go_simp
              refine hK.out _ _ (HS4.out) (fun hHeld => ?_)
              clear hK K
              try simp only [Act.put, List.setIfInBounds_toArray, List.set_cons_zero, List.set_cons_succ, List.getElem_toArray, List.getElem_cons_succ, List.getElem_cons_zero]
              refine wpAnyH_ready (rs := [6]) (by kernel_rfl) (by simp) (AllReadyH.cons rfl (fun K hK => ?_) (AllReadyH.nil))
              try simp only [List.getElem_toArray, List.getElem_cons_succ, List.getElem_cons_zero]
              go_simp
              refine hK.out _ _ (HS5.out) (fun hHeld => ?_)
              clear hK K
              try simp only [Act.put, List.setIfInBounds_toArray, List.set_cons_zero, List.set_cons_succ, List.getElem_toArray, List.getElem_cons_succ, List.getElem_cons_zero]
              have hh := FIN m2 m4 m0 m1 m3 (by have e0 := HM0.out; have e1 := HM1.out; have e2 := HM2.out; have e3 := HM3.out; have e4 := HM4.out; exact ⟨by omega, by omega⟩)
              apply hh
          · try simp only [List.getElem_toArray, List.getElem_cons_succ, List.getElem_cons_zero]
            go_simp
            refine hK.out _ _ (HS3.out) (fun hHeld => ?_)
            clear hK K
            try simp only [Act.put, List.setIfInBounds_toArray, List.set_cons_zero, List.set_cons_succ, List.getElem_toArray, List.getElem_cons_succ, List.getElem_cons_zero]
            refine wpAnyH_ready (rs := [5, 9]) (by kernel_rfl) (by simp) (AllReadyH.cons rfl (fun K hK => ?_) (AllReadyH.cons rfl (fun K hK => ?_) (AllReadyH.nil)))
            · try simp only [List.getElem_toArray, List.getElem_cons_succ, List.getElem_cons_zero]
              go_simp
              refine hK.out _ _ (HS4.out) (fun hHeld => ?_)
              clear hK K
              try simp only [Act.put, List.setIfInBounds_toArray, List.set_cons_zero, List.set_cons_succ, List.getElem_toArray, List.getElem_cons_succ, List.getElem_cons_zero]
              refine wpAnyH_ready (rs := [9]) (by kernel_rfl) (by simp) (AllReadyH.cons rfl (fun K hK => ?_) (AllReadyH.nil))
              try simp only [List.getElem_toArray, List.getElem_cons_succ, List.getElem_cons_zero]
              go_simp
              refine hK.out _ _ (HS5.out) (fun hHeld => ?_)
              clear hK K
              try simp only [Act.put, List.setIfInBounds_toArray, List.set_cons_zero, List.set_cons_succ, List.getElem_toArray, List.getElem_cons_succ, List.getElem_cons_zero]
              have hh := FIN m3 m2 m0 m1 m4 (by have e0 := HM0.out; have e1 := HM1.out; have e2 := HM2.out; have e3 := HM3.out; have e4 := HM4.out; exact ⟨by omega, by omega⟩)
              apply hh
            · try simp only [List.getElem_toArray, List.getElem_cons_succ, List.getElem_cons_zero]
              go_simp
              refine hK.out _ _ (HS4.out) (fun hHeld => ?_)
              clear hK K
              try simp only [Act.put, List.setIfInBounds_toArray, List.set_cons_zero, List.set_cons_succ, List.getElem_toArray, List.getElem_cons_succ, List.getElem_cons_zero]
              refine wpAnyH_ready (rs := [5]) (by kernel_rfl) (by simp) (AllReadyH.cons rfl (fun K hK => ?_) (AllReadyH.nil))
              try simp only [List.getElem_toArray, List.getElem_cons_succ, List.getElem_cons_zero]
              go_simp
              refine hK.out _ _ (HS5.out) (fun hHeld => ?_)
              clear hK K
              try simp only [Act.put, List.setIfInBounds_toArray, List.set_cons_zero, List.set_cons_succ, List.getElem_toArray, List.getElem_cons_succ, List.getElem_cons_zero]
              have hh := FIN m4 m2 m0 m1 m3 (by have e0 := HM0.out; have e1 := HM1.out; have e2 := HM2.out; have e3 := HM3.out; have e4 := HM4.out; exact ⟨by omega, by omega⟩)
              apply hh
          · try simp only [List.getElem_toArray, List.getElem_cons_succ, List.getElem_cons_zero]
            go_simp
            refine hK.out _ _ (HS3.out) (fun hHeld => ?_)
            clear hK K
            try simp only [Act.put, List.setIfInBounds_toArray, List.set_cons_zero, List.set_cons_succ, List.getElem_toArray, List.getElem_cons_succ, List.getElem_cons_zero]
            refine wpAnyH_ready (rs := [5, 6]) (by kernel_rfl) (by simp) (AllReadyH.cons rfl (fun K hK => ?_) (AllReadyH.cons rfl (fun K hK => ?_) (AllReadyH.nil)))
            · try simp only [List.getElem_toArray, List.getElem_cons_succ, List.getElem_cons_zero]
              go_simp
              refine hK.out _ _ (HS4.out) (fun hHeld => ?_)
              clear hK K
              try simp only [Act.put, List.setIfInBounds_toArray, List.set_cons_zero, List.set_cons_succ, List.getElem_toArray, List.getElem_cons_succ, List.getElem_cons_zero]
              refine wpAnyH_ready (rs := [6]) (by kernel_rfl) (by simp) (AllReadyH.cons rfl (fun K hK => ?_) (AllReadyH.nil))
              try simp only [List.getElem_toArray, List.getElem_cons_succ, List.getElem_cons_zero]
              go_simp
              refine hK.out _ _ (HS5.out) (fun hHeld => ?_)
              clear hK K
              try simp only [Act.put, List.setIfInBounds_toArray, List.set_cons_zero, List.set_cons_succ, List.getElem_toArray, List.getElem_cons_succ, List.getElem_cons_zero]
              have hh := FIN m3 m4 m0 m1 m2 (by have e0 := HM0.out; have e1 := HM1.out; have e2 := HM2.out; have e3 := HM3.out; have e4 := HM4.out; exact ⟨by omega, by omega⟩)
              apply hh
            · try simp only [List.getElem_toArray, List.getElem_cons_succ, List.getElem_cons_zero]
              go_simp
              refine hK.out _ _ (HS4.out) (fun hHeld => ?_)
              clear hK K
              try simp only [Act.put, List.setIfInBounds_toArray, List.set_cons_zero, List.set_cons_succ, List.getElem_toArray, List.getElem_cons_succ, List.getElem_cons_zero]
              refine wpAnyH_ready (rs := [5]) (by kernel_rfl) (by simp) (AllReadyH.cons rfl (fun K hK => ?_) (AllReadyH.nil))
              try simp only [List.getElem_toArray, List.getElem_cons_succ, List.getElem_cons_zero]
              go_simp
              refine hK.out _ _ (HS5.out) (fun hHeld => ?_)
              clear hK K
              try simp only [Act.put, List.setIfInBounds_toArray, List.set_cons_zero, List.set_cons_succ, List.getElem_toArray, List.getElem_cons_succ, List.getElem_cons_zero]
              have hh := FIN m4 m3 m0 m1 m2 (by have e0 := HM0.out; have e1 := HM1.out; have e2 := HM2.out; have e3 := HM3.out; have e4 := HM4.out; exact ⟨by omega, by omega⟩)
              apply hh
        · try simp only [List.getElem_toArray, List.getElem_cons_succ, List.getElem_cons_zero]
          go_simp
          refine hK.out _ _ (HS2.out) (fun hHeld => ?_)
          clear hK K
          try simp only [Act.put, List.setIfInBounds_toArray, List.set_cons_zero, List.set_cons_succ, List.getElem_toArray, List.getElem_cons_succ, List.getElem_cons_zero]
          refine wpAnyH_ready (rs := [5, 6, 8]) (by kernel_rfl) (by simp) (AllReadyH.cons rfl (fun K hK => ?_) (AllReadyH.cons rfl (fun K hK => ?_) (AllReadyH.cons rfl (fun K hK => ?_) (AllReadyH.nil))))
          · try simp only [List.getElem_toArray, List.getElem_cons_succ, List.getElem_cons_zero]
            go_simp
            refine hK.out _ _ (HS3.out) (fun hHeld => ?_)
            clear hK K
            try simp only [Act.put, List.setIfInBounds_toArray, List.set_cons_zero, List.set_cons_succ, List.getElem_toArray, List.getElem_cons_succ, List.getElem_cons_zero]
            refine wpAnyH_ready (rs := [6, 8]) (by kernel_rfl) (by simp) (AllReadyH.cons rfl (fun K hK => ?_) (AllReadyH.cons rfl (fun K hK => ?_) (AllReadyH.nil)))
            · try simp only [List.getElem_toArray, List.getElem_cons_succ, List.getElem_cons_zero]
              go_simp
              refine hK.out _ _ (HS4.out) (fun hHeld => ?_)
              clear hK K
              try simp only [Act.put, List.setIfInBounds_toArray, List.set_cons_zero, List.set_cons_succ, List.getElem_toArray, List.getElem_cons_succ, List.getElem_cons_zero]
              refine wpAnyH_ready (rs := [8]) (by kernel_rfl) (by simp) (AllReadyH.cons rfl (fun K hK => ?_) (AllReadyH.nil))
              try simp only [List.getElem_toArray, List.getElem_cons_succ, List.getElem_cons_zero]
              go_simp
              refine hK.out _ _ (HS5.out) (fun hHeld => ?_)
              clear hK K
              try simp only [Act.put, List.setIfInBounds_toArray, List.set_cons_zero, List.set_cons_succ, List.getElem_toArray, List.getElem_cons_succ, List.getElem_cons_zero]
              have hh := FIN m2 m3 m0 m4 m1 (by have e0 := HM0.out; have e1 := HM1.out; have e2 := HM2.out; have e3 := HM3.out; have e4 := HM4.out; exact ⟨by omega, by omega⟩)
              apply hh
            · try simp only [List.getElem_toArray, List.getElem_cons_succ, List.getElem_cons_zero]
              go_simp
              refine hK.out _ _ (HS4.out) (fun hHeld => ?_)
              clear hK K
              try simp only [Act.put, List.setIfInBounds_toArray, List.set_cons_zero, List.set_cons_succ, List.getElem_toArray, List.getElem_cons_succ, List.getElem_cons_zero]
              refine wpAnyH_ready (rs := [6]) (by kernel_rfl) (by simp) (AllReadyH.cons rfl (fun K hK => ?_) (AllReadyH.nil))
              try simp only [List.getElem_toArray, List.getElem_cons_succ, List.getElem_cons_zero]
              go_simp
              refine hK.out _ _ (HS5.out) (fun hHeld => ?_)
              clear hK K
              try simp only [Act.put, List.setIfInBounds_toArray, List.set_cons_zero, List.set_cons_succ, List.getElem_toArray, List.getElem_cons_succ, List.getElem_cons_zero]
              have hh := FIN m2 m4 m0 m3 m1 (by have e0 := HM0.out; have e1 := HM1.out; have e2 := HM2.out; have e3 := HM3.out; have e4 := HM4.out; exact ⟨by omega, by omega⟩)
              apply hh
          · try simp only [List.getElem_toArray, List.getElem_cons_succ, List.getElem_cons_zero]
            go_simp
            refine hK.out _ _ (HS3.out) (fun hHeld => ?_)
            clear hK K
            try simp only [Act.put, List.setIfInBounds_toArray, List.set_cons_zero, List.set_cons_succ, List.getElem_toArray, List.getElem_cons_succ, List.getElem_cons_zero]
            refine wpAnyH_ready (rs := [5, 8]) (by kernel_rfl) (by simp) (AllReadyH.cons rfl (fun K hK => ?_) (AllReadyH.cons rfl (fun K hK => ?_) (AllReadyH.nil)))
            · try simp only [List.getElem_toArray, List.getElem_cons_succ, List.getElem_cons_zero]
              go_simp
              refine hK.out _ _ (HS4.out) (fun hHeld => ?_)
              clear hK K
              try simp only [Act.put, List.setIfInBounds_toArray, List.set_cons_zero, List.set_cons_succ, List.getElem_toArray, List.getElem_cons_succ, List.getElem_cons_zero]
              refine wpAnyH_ready (rs := [8]) (by kernel_rfl) (by simp) (AllReadyH.cons rfl (fun K hK => ?_) (AllReadyH.nil))
              try simp only [List.getElem_toArray, List.getElem_cons_succ, List.getElem_cons_zero]
              go_simp
              refine hK.out _ _ (HS5.out) (fun hHeld => ?_)
              clear hK K
              try simp only [Act.put, List.setIfInBounds_toArray, List.set_cons_zero, List.set_cons_succ, List.getElem_toArray, List.getElem_cons_succ, List.getElem_cons_zero]
              have hh := FIN m3 m2 m0 m4 m1 (by have e0 := HM0.out; have e1 := HM1.out; have e2 := HM2.out; have e3 := HM3.out; have e4 := HM4.out; exact ⟨by omega, by omega⟩)
              apply hh
            · try simp only [List.getElem_toArray, List.getElem_cons_succ, List.getElem_cons_zero]
              go_simp
              refine hK.out _ _ (HS4.out) (fun hHeld => ?_)
              clear hK K
              try simp only [Act.put, List.setIfInBounds_toArray, List.set_cons_zero, List.set_cons_succ, List.getElem_toArray, List.getElem_cons_succ, List.getElem_cons_zero]
              refine wpAnyH_ready (rs := [5]) (by kernel_rfl) (by simp) (AllReadyH.cons rfl (fun K hK => ?_) (AllReadyH.nil))
              try simp only [List.getElem_toArray, List.getElem_cons_succ, List.getElem_cons_zero]
              go_simp
              refine hK.out _ _ (HS5.out) (fun hHeld => ?_)
              clear hK K
              try simp only [Act.put, List.setIfInBounds_toArray, List.set_cons_zero, List.set_cons_succ, List.getElem_toArray, List.getElem_cons_succ, List.getElem_cons_zero]
              have hh := FIN m4 m2 m0 m3 m1 (by have e0 := HM0.out; have e1 := HM1.out; have e2 := HM2.out; have e3 := HM3.out; have e4 := HM4.out; exact ⟨by omega, by omega⟩)
              apply hh
          · try simp only [List.getElem_toArray, List.getElem_cons_succ, List.getElem_cons_zero]
            go_simp
            refine hK.out _ _ (HS3.out) (fun hHeld => ?_)
            clear hK K
            try simp only [Act.put, List.setIfInBounds_toArray, List.set_cons_zero, List.set_cons_succ, List.getElem_toArray, List.getElem_cons_succ, List.getElem_cons_zero]
            refine wpAnyH_ready (rs := [5, 6]) (by kernel_rfl) (by simp) (AllReadyH.cons rfl (fun K hK => ?_) (AllReadyH.cons rfl (fun K hK => ?_) (AllReadyH.nil)))
            · try simp only [List.getElem_toArray, List.getElem_cons_succ, List.getElem_cons_zero]
              go_simp
              refine hK.out _ _ (HS4.out) (fun hHeld => ?_)
              clear hK K
              try simp only [Act.put, List.setIfInBounds_toArray, List.set_cons_zero, List.set_cons_succ, List.getElem_toArray, List.getElem_cons_succ, List.getElem_cons_zero]
              refine wpAnyH_ready (rs := [6]) (by kernel_rfl) (by simp) (AllReadyH.cons rfl (fun K hK => ?_) (AllReadyH.nil))
              try simp only [List.getElem_toArray, List.getElem_cons_succ, List.getElem_cons_zero]
              go_simp
              refine hK.out _ _ (HS5.out) (fun hHeld => ?_)
              clear hK K
              try simp only [Act.put, List.setIfInBounds_toArray, List.set_cons_zero, List.set_cons_succ, List.getElem_toArray, List.getElem_cons_succ, List.getElem_cons_zero]
              have hh := FIN m3 m4 m0 m2 m1 (by have e0 := HM0.out; have e1 := HM1.out; have e2 := HM2.out; have e3 := HM3.out; have e4 := HM4.out; exact ⟨by omega, by omega⟩)
              apply hh
            · try simp only [List.getElem_toArray, List.getElem_cons_succ, List.getElem_cons_zero]
              go_simp
              refine hK.out _ _ (HS4.out) (fun hHeld => ?_)
              clear hK K
              try simp only [Act.put, List.setIfInBounds_toArray, List.set_cons_zero, List.set_cons_succ, List.getElem_toArray, List.getElem_cons_succ, List.getElem_cons_zero]
              refine wpAnyH_ready (rs := [5]) (by kernel_rfl) (by simp) (AllReadyH.cons rfl (fun K hK => ?_) (AllReadyH.nil))
              try simp only [List.getElem_toArray, List.getElem_cons_succ, List.getElem_cons_zero]
              go_simp
              refine hK.out _ _ (HS5.out) (fun hHeld => ?_)
              clear hK K
              try simp only [Act.put, List.setIfInBounds_toArray, List.set_cons_zero, List.set_cons_succ, List.getElem_toArray, List.getElem_cons_succ, List.getElem_cons_zero]
              have hh := FIN m4 m3 m0 m2 m1 (by have e0 := HM0.out; have e1 := HM1.out; have e2 := HM2.out; have e3 := HM3.out; have e4 := HM4.out; exact ⟨by omega, by omega⟩)
              apply hh
      · try simp only [List.getElem_toArray, List.getElem_cons_succ, List.getElem_cons_zero]
        go_simp
        refine hK.out _ _ (HS1.out) (fun hHeld => ?_)
        clear hK K
        try simp only [Act.put, List.setIfInBounds_toArray, List.set_cons_zero, List.set_cons_succ, List.getElem_toArray, List.getElem_cons_succ, List.getElem_cons_zero]
        refine wpAnyH_ready (rs := [5, 6, 7, 9]) (by kernel_rfl) (by simp) (AllReadyH.cons rfl (fun K hK => ?_) (AllReadyH.cons rfl (fun K hK => ?_) (AllReadyH.cons rfl (fun K hK => ?_) (AllReadyH.cons rfl (fun K hK => ?_) (AllReadyH.nil)))))
        · try simp only [List.getElem_toArray, List.getElem_cons_succ, List.getElem_cons_zero]
          go_simp
          refine hK.out _ _ (HS2.out) (fun hHeld => ?_)
          clear hK K
          try simp only [Act.put, List.setIfInBounds_toArray, List.set_cons_zero, List.set_cons_succ, List.getElem_toArray, List.getElem_cons_succ, List.getElem_cons_zero]
          refine wpAnyH_ready (rs := [6, 7, 9]) (by kernel_rfl) (by simp) (AllReadyH.cons rfl (fun K hK => ?_) (AllReadyH.cons rfl (fun K hK => ?_) (AllReadyH.cons rfl (fun K hK => ?_) (AllReadyH.nil))))
          · try simp only [List.getElem_toArray, List.getElem_cons_succ, List.getElem_cons_zero]
            go_simp
            refine hK.out _ _ (HS3.out) (fun hHeld => ?_)
            clear hK K
            try simp only [Act.put, List.setIfInBounds_toArray, List.set_cons_zero, List.set_cons_succ, List.getElem_toArray, List.getElem_cons_succ, List.getElem_cons_zero]
            refine wpAnyH_ready (rs := [7, 9]) (by kernel_rfl) (by simp) (AllReadyH.cons rfl (fun K hK => ?_) (AllReadyH.cons rfl (fun K hK => ?_) (AllReadyH.nil)))
            · try simp only [List.getElem_toArray, List.getElem_cons_succ, List.getElem_cons_zero]
              go_simp
              refine hK.out _ _ (HS4.out) (fun hHeld => ?_)
              clear hK K
              try simp only [Act.put, List.setIfInBounds_toArray, List.set_cons_zero, List.set_cons_succ, List.getElem_toArray, List.getElem_cons_succ, List.getElem_cons_zero]
              refine wpAnyH_ready (rs := [9]) (by kernel_rfl) (by simp) (AllReadyH.cons rfl (fun K hK => ?_) (AllReadyH.nil))
              try simp only [List.getElem_toArray, List.getElem_cons_succ, List.getElem_cons_zero]
              go_simp
              refine hK.out _ _ (HS5.out) (fun hHeld => ?_)
              clear hK K
              try simp only [Act.put, List.setIfInBounds_toArray, List.set_cons_zero, List.set_cons_succ, List.getElem_toArray, List.getElem_cons_succ, List.getElem_cons_zero]
              have hh := FIN m1 m2 m3 m0 m4 (by have e0 := HM0.out; have e1 := HM1.out; have e2 := HM2.out; have e3 := HM3.out; have e4 := HM4.out; exact ⟨by omega, by omega⟩)
              apply hh
            · try simp only [List.getElem_toArray, List.getElem_cons_succ, List.getElem_cons_zero]
              go_simp
              refine hK.out _ _ (HS4.out) (fun hHeld => ?_)
              clear hK K
              try simp only [Act.put, List.setIfInBounds_toArray, List.set_cons_zero, List.set_cons_succ, List.getElem_toArray, List.getElem_cons_succ, List.getElem_cons_zero]
              refine wpAnyH_ready (rs := [7]) (by kernel_rfl) (by simp) (AllReadyH.cons rfl (fun K hK => ?_) (AllReadyH.nil))
              try simp only [List.getElem_toArray, List.getElem_cons_succ, List.getElem_cons_zero]
              go_simp
              refine hK.out _ _ (HS5.out) (fun hHeld => ?_)
              clear hK K
              try simp only [Act.put, List.setIfInBounds_toArray, List.set_cons_zero, List.set_cons_succ, List.getElem_toArray, List.getElem_cons_succ, List.getElem_cons_zero]
              have hh := FIN m1 m2 m4 m0 m3 (by have e0 := HM0.out; have e1 := HM1.out; have e2 := HM2.out; have e3 := HM3.out; have e4 := HM4.out; exact ⟨by omega, by omega⟩)
              apply hh
          · try simp only [List.getElem_toArray, List.getElem_cons_succ, List.getElem_cons_zero]
            go_simp
            refine hK.out _ _ (HS3.out) (fun hHeld => ?_)
            clear hK K
            try simp only [Act.put, List.setIfInBounds_toArray, List.set_cons_zero, List.set_cons_succ, List.getElem_toArray, List.getElem_cons_succ, List.getElem_cons_zero]
            refine wpAnyH_ready (rs := [6, 9]) (by kernel_rfl) (by simp) (AllReadyH.cons rfl (fun K hK => ?_) (AllReadyH.cons rfl (fun K hK => ?_) (AllReadyH.nil)))
            · try simp only [List.getElem_toArray, List.getElem_cons_succ, List.getElem_cons_zero]
              go_simp
              refine hK.out _ _ (HS4.out) (fun hHeld => ?_)
              clear hK K
              try simp only [Act.put, List.setIfInBounds_toArray, List.set_cons_zero, List.set_cons_succ, List.getElem_toArray, List.getElem_cons_succ, List.getElem_cons_zero]
              refine wpAnyH_ready (rs := [9]) (by kernel_rfl) (by simp) (AllReadyH.cons rfl (fun K hK => ?_) (AllReadyH.nil))
              try simp only [List.getElem_toArray, List.getElem_cons_succ, List.getElem_cons_zero]
              go_simp
              refine hK.out _ _ (HS5.out) (fun hHeld => ?_)
              clear hK K
              try simp only [Act.put, List.setIfInBounds_toArray, List.set_cons_zero, List.set_cons_succ, List.getElem_toArray, List.getElem_cons_succ, List.getElem_cons_zero]
              have hh := FIN m1 m3 m2 m0 m4 (by have e0 := HM0.out; have e1 := HM1.out; have e2 := HM2.out; have e3 := HM3.out; have e4 := HM4.out; exact ⟨by omega, by omega⟩)
              apply hh
            · try simp only [List.getElem_toArray, List.getElem_cons_succ, List.getElem_cons_zero]
              go_simp
              refine hK.out _ _ (HS4.out) (fun hHeld => ?_)
              clear hK K
              try simp only [Act.put, List.setIfInBounds_toArray, List.set_cons_zero, List.set_cons_succ, List.getElem_toArray, List.getElem_cons_succ, List.getElem_cons_zero]
              refine wpAnyH_ready (rs := [6]) (by kernel_rfl) (by simp) (AllReadyH.cons rfl (fun K hK => ?_) (AllReadyH.nil))
              try simp only [List.getElem_toArray, List.getElem_cons_succ, List.getElem_cons_zero]
              go_simp
              refine hK.out _ _ (HS5.out) (fun hHeld => ?_)
              clear hK K
              try simp only [Act.put, List.setIfInBounds_toArray, List.set_cons_zero, List.set_cons_succ, List.getElem_toArray, List.getElem_cons_succ, List.getElem_cons_zero]
              have hh := FIN m1 m4 m2 m0 m3 (by have e0 := HM0.out; have e1 := HM1.out; have e2 := HM2.out; have e3 := HM3.out; have e4 := HM4.out; exact ⟨by omega, by omega⟩)
              apply hh
          · try simp only [List.getElem_toArray, List.getElem_cons_succ, List.getElem_cons_zero]
            go_simp
            refine hK.out _ _ (HS3.out) (fun hHeld => ?_)
            clear hK K
            try simp only [Act.put, List.setIfInBounds_toArray, List.set_cons_zero, List.set_cons_succ, List.getElem_toArray, List.getElem_cons_succ, List.getElem_cons_zero]
            refine wpAnyH_ready (rs := [6, 7]) (by kernel_rfl) (by simp) (AllReadyH.cons rfl (fun K hK => ?_) (AllReadyH.cons rfl (fun K hK => ?_) (AllReadyH.nil)))
            · try simp only [List.getElem_toArray, List.getElem_cons_succ, List.getElem_cons_zero]
              go_simp
              refine hK.out _ _ (HS4.out) (fun hHeld => ?_)
              clear hK K
              try simp only [Act.put, List.setIfInBounds_toArray, List.set_cons_zero, List.set_cons_succ, List.getElem_toArray, List.getElem_cons_succ, List.getElem_cons_zero]
              refine wpAnyH_ready (rs := [7]) (by kernel_rfl) (by simp) (AllReadyH.cons rfl (fun K hK => ?_) (AllReadyH.nil))
              try simp only [List.getElem_toArray, List.getElem_cons_succ, List.getElem_cons_zero]
              go_simp
              refine hK.out _ _ (HS5.out) (fun hHeld => ?_)
              clear hK K
              try simp only [Act.put, List.setIfInBounds_toArray, List.set_cons_zero, List.set_cons_succ, List.getElem_toArray, List.getElem_cons_succ, List.getElem_cons_zero]
              have hh := FIN m1 m3 m4 m0 m2 (by have e0 := HM0.out; have e1 := HM1.out; have e2 := HM2.out; have e3 := HM3.out; have e4 := HM4.out; exact ⟨by omega, by omega⟩)
              apply hh
            · try simp only [List.getElem_toArray, List.getElem_cons_succ, List.getElem_cons_zero]
              go_simp
              refine hK.out _ _ (HS4.out) (fun hHeld => ?_)
              clear hK K
              try simp only [Act.put, List.setIfInBounds_toArray, List.set_cons_zero, List.set_cons_succ, List.getElem_toArray, List.getElem_cons_succ, List.getElem_cons_zero]
              refine wpAnyH_ready (rs := [6]) (by kernel_rfl) (by simp) (AllReadyH.cons rfl (fun K hK => ?_) (AllReadyH.nil))
              try simp only [List.getElem_toArray, List.getElem_cons_succ, List.getElem_cons_zero]
              go_simp
              refine hK.out _ _ (HS5.out) (fun hHeld => ?_)
              clear hK K
              try simp only [Act.put, List.setIfInBounds_toArray, List.set_cons_zero, List.set_cons_succ, List.getElem_toArray, List.getElem_cons_succ, List.getElem_cons_zero]
              have hh := FIN m1 m4 m3 m0 m2 (by have e0 := HM0.out; have e1 := HM1.out; have e2 := HM2.out; have e3 := HM3.out; have e4 := HM4.out; exact ⟨by omega, by omega⟩)
              apply hh
        · try simp only [List.getElem_toArray, List.getElem_cons_succ, List.getElem_cons_zero]
          go_simp
          refine hK.out _ _ (HS2.out) (fun hHeld => ?_)
          clear hK K
          try simp only [Act.put, List.setIfInBounds_toArray, List.set_cons_zero, List.set_cons_succ, List.getElem_toArray, List.getElem_cons_succ, List.getElem_cons_zero]
          refine wpAnyH_ready (rs := [5, 7, 9]) (by kernel_rfl) (by simp) (AllReadyH.cons rfl (fun K hK => ?_) (AllReadyH.cons rfl (fun K hK => ?_) (AllReadyH.cons rfl (fun K hK => ?_) (AllReadyH.nil))))
          · try simp only [List.getElem_toArray, List.getElem_cons_succ, List.getElem_cons_zero]
            go_simp
            refine hK.out _ _ (HS3.out) (fun hHeld => ?_)
            clear hK K
            try simp only [Act.put, List.setIfInBounds_toArray, List.set_cons_zero, List.set_cons_succ, List.getElem_toArray, List.getElem_cons_succ, List.getElem_cons_zero]
            refine wpAnyH_ready (rs := [7, 9]) (by kernel_rfl) (by simp) (AllReadyH.cons rfl (fun K hK => ?_) (AllReadyH.cons rfl (fun K hK => ?_) (AllReadyH.nil)))
            · try simp only [List.getElem_toArray, List.getElem_cons_succ, List.getElem_cons_zero]
              go_simp
              refine hK.out _ _ (HS4.out) (fun hHeld => ?_)
              clear hK K
              try simp only [Act.put, List.setIfInBounds_toArray, List.set_cons_zero, List.set_cons_succ, List.getElem_toArray, List.getElem_cons_succ, List.getElem_cons_zero]
              refine wpAnyH_ready (rs := [9]) (by kernel_rfl) (by simp) (AllReadyH.cons rfl (fun K hK => ?_) (AllReadyH.nil))
              try simp only [List.getElem_toArray, List.getElem_cons_succ, List.getElem_cons_zero]
              go_simp
              refine hK.out _ _ (HS5.out) (fun hHeld => ?_)
              clear hK K
              try simp only [Act.put, List.setIfInBounds_toArray, List.set_cons_zero, List.set_cons_succ, List.getElem_toArray, List.getElem_cons_succ, List.getElem_cons_zero]
              have hh := FIN m2 m1 m3 m0 m4 (by have e0 := HM0.out; have e1 := HM1.out; have e2 := HM2.out; have e3 := HM3.out; have e4 := HM4.out; exact ⟨by omega, by omega⟩)
              apply hh
            · try simp only [List.getElem_toArray, List.getElem_cons_succ, List.getElem_cons_zero]
              go_simp
              refine hK.out _ _ (HS4.out) (fun hHeld => ?_)
              clear hK K
              try simp only [Act.put, List.setIfInBounds_toArray, List.set_cons_zero, List.set_cons_succ, List.getElem_toArray, List.getElem_cons_succ, List.getElem_cons_zero]
              refine wpAnyH_ready (rs := [7]) (by kernel_rfl) (by simp) (AllReadyH.cons rfl (fun K hK => ?_) (AllReadyH.nil))
              try simp only [List.getElem_toArray, List.getElem_cons_succ, List.getElem_cons_zero]
              go_simp
              refine hK.out _ _ (HS5.out) (fun hHeld => ?_)
              clear hK K
              try simp only [Act.put, List.setIfInBounds_toArray, List.set_cons_zero, List.set_cons_succ, List.getElem_toArray, List.getElem_cons_succ, List.getElem_cons_zero]
              have hh := FIN m2 m1 m4 m0 m3 (by have e0 := HM0.out; have e1 := HM1.out; have e2 := HM2.out; have e3 := HM3.out; have e4 := HM4.out; exact ⟨by omega, by omega⟩)
              apply hh
          · try simp only [List.getElem_toArray, List.getElem_cons_succ, List.getElem_cons_zero]
            go_simp
            refine hK.out _ _ (HS3.out) (fun hHeld => ?_)
            clear hK K
            try simp only [Act.put, List.setIfInBounds_toArray, List.set_cons_zero, List.set_cons_succ, List.getElem_toArray, List.getElem_cons_succ, List.getElem_cons_zero]
            refine wpAnyH_ready (rs := [5, 9]) (by kernel_rfl) (by simp) (AllReadyH.cons rfl (fun K hK => ?_) (AllReadyH.cons rfl (fun K hK => ?_) (AllReadyH.nil)))
            · try simp only [List.getElem_toArray, List.getElem_cons_succ, List.getElem_cons_zero]
              go_simp
              refine hK.out _ _ (HS4.out) (fun hHeld => ?_)
              clear hK K
              try simp only [Act.put, List.setIfInBounds_toArray, List.set_cons_zero, List.set_cons_succ, List.getElem_toArray, List.getElem_cons_succ, List.getElem_cons_zero]
              refine wpAnyH_ready (rs := [9]) (by kernel_rfl) (by simp) (AllReadyH.cons rfl (fun K hK => ?_) (AllReadyH.nil))
              try simp only [List.getElem_toArray, List.getElem_cons_succ, List.getElem_cons_zero]
              go_simp
              refine hK.out _ _ (HS5.out) (fun hHeld => ?_)
              clear hK K
              try simp only [Act.put, List.setIfInBounds_toArray, List.set_cons_zero, List.set_cons_succ, List.getElem_toArray, List.getElem_cons_succ, List.getElem_cons_zero]
              have hh := FIN m3 m1 m2 m0 m4 (by have e0 := HM0.out; have e1 := HM1.out; have e2 := HM2.out; have e3 := HM3.out; have e4 := HM4.out; exact ⟨by omega, by omega⟩)
              apply hh
            · try simp only [List.getElem_toArray, List.getElem_cons_succ, List.getElem_cons_zero]
              go_simp
              refine hK.out _ _ (HS4.out) (fun hHeld => ?_)
              clear hK K
              try simp only [Act.put, List.setIfInBounds_toArray, List.set_cons_zero, List.set_cons_succ, List.getElem_toArray, List.getElem_cons_succ, List.getElem_cons_zero]
              refine wpAnyH_ready (rs := [5]) (by kernel_rfl) (by simp) (AllReadyH.cons rfl (fun K hK => ?_) (AllReadyH.nil))
              try simp only [List.getElem_toArray, List.getElem_cons_succ, List.getElem_cons_zero]
              go_simp
              refine hK.out _ _ (HS5.out) (fun hHeld => ?_)
              clear hK K
              try simp only [Act.put, List.setIfInBounds_toArray, List.set_cons_zero, List.set_cons_succ, List.getElem_toArray, List.getElem_cons_succ, List.getElem_cons_zero]
              have hh := FIN m4 m1 m2 m0 m3 (by have e0 := HM0.out; have e1 := HM1.out; have e2 := HM2.out; have e3 := HM3.out; have e4 := HM4.out; exact ⟨by omega, by omega⟩)
              apply hh
          · try simp only [List.getElem_toArray, List.getElem_cons_succ, List.getElem_cons_zero]
            go_simp
            refine hK.out _ _ (HS3.out) (fun hHeld => ?_)
            clear hK K
            try simp only [Act.put, List.setIfInBounds_toArray, List.set_cons_zero, List.set_cons_succ, List.getElem_toArray, List.getElem_cons_succ, List.getElem_cons_zero]
            refine wpAnyH_ready (rs := [5, 7]) (by kernel_rfl) (by simp) (AllReadyH.cons rfl (fun K hK => ?_) (AllReadyH.cons rfl (fun K hK => ?_) (AllReadyH.nil)))
            · try simp only [List.getElem_toArray, List.getElem_cons_succ, List.getElem_cons_zero]
              go_simp
              refine hK.out _ _ (HS4.out) (fun hHeld => ?_)
              clear hK K
              try simp only [Act.put, List.setIfInBounds_toArray, List.set_cons_zero, List.set_cons_succ, List.getElem_toArray, List.getElem_cons_succ, List.getElem_cons_zero]
              refine wpAnyH_ready (rs := [7]) (by kernel_rfl) (by simp) (AllReadyH.cons rfl (fun K hK => ?_) (AllReadyH.nil))
              try simp only [List.getElem_toArray, List.getElem_cons_succ, List.getElem_cons_zero]
              go_simp
              refine hK.out _ _ (HS5.out) (fun hHeld => ?_)
              clear hK K
              try simp only [Act.put, List.setIfInBounds_toArray, List.set_cons_zero, List.set_cons_succ, List.getElem_toArray, List.getElem_cons_succ, List.getElem_cons_zero]
              have hh := FIN m3 m1 m4 m0 m2 (by have e0 := HM0.out; have e1 := HM1.out; have e2 := HM2.out; have e3 := HM3.out; have e4 := HM4.out; exact ⟨by omega, by omega⟩)
              apply hh
            · try simp only [List.getElem_toArray, List.getElem_cons_succ, List.getElem_cons_zero]
              go_simp
              refine hK.out _ _ (HS4.out) (fun hHeld => ?_)
              clear hK K
              try simp only [Act.put, List.setIfInBounds_toArray, List.set_cons_zero, List.set_cons_succ, List.getElem_toArray, List.getElem_cons_succ, List.getElem_cons_zero]
              refine wpAnyH_ready (rs := [5]) (by kernel_rfl) (by simp) (AllReadyH.cons rfl (fun K hK => ?_) (AllReadyH.nil))
              try simp only [List.getElem_toArray, List.getElem_cons_succ, List.getElem_cons_zero]
              go_simp
              refine hK.out _ _ (HS5.out) (fun hHeld => ?_)
              clear hK K
              try simp only [Act.put, List.setIfInBounds_toArray, List.set_cons_zero, List.set_cons_succ, List.getElem_toArray, List.getElem_cons_succ, List.getElem_cons_zero]
              have hh := FIN m4 m1 m3 m0 m2 (by have e0 := HM0.out; have e1 := HM1.out; have e2 := HM2.out; have e3 := HM3.out; have e4 := HM4.out; exact ⟨by omega, by omega⟩)
              apply hh
        · try simp only [List.getElem_toArray, List.getElem_cons_succ, List.getElem_cons_zero]
          go_simp
          refine hK.out _ _ (HS2.out) (fun hHeld => ?_)
          clear hK K
          try simp only [Act.put, List.setIfInBounds_toArray, List.set_cons_zero, List.set_cons_succ, List.getElem_toArray, List.getElem_cons_succ, List.getElem_cons_zero]
          refine wpAnyH_ready (rs := [5, 6, 9]) (by kernel_rfl) (by simp) (AllReadyH.cons rfl (fun K hK => ?_) (AllReadyH.cons rfl (fun K hK => ?_) (AllReadyH.cons rfl (fun K hK => ?_) (AllReadyH.nil))))
          · try simp only [List.getElem_toArray, List.getElem_cons_succ, List.getElem_cons_zero]
            go_simp
            refine hK.out _ _ (HS3.out) (fun hHeld => ?_)
            clear hK K
            try simp only [Act.put, List.setIfInBounds_toArray, List.set_cons_zero, List.set_cons_succ, List.getElem_toArray, List.getElem_cons_succ, List.getElem_cons_zero]
            refine wpAnyH_ready (rs := [6, 9]) (by kernel_rfl) (by simp) (AllReadyH.cons rfl (fun K hK => ?_) (AllReadyH.cons rfl (fun K hK => ?_) (AllReadyH.nil)))
            · try simp only [List.getElem_toArray, List.getElem_cons_succ, List.getElem_cons_zero]
              go_simp
              refine hK.out _ _ (HS4.out) (fun hHeld => ?_)
              clear hK K
              try simp only [Act.put, List.setIfInBounds_toArray, List.set_cons_zero, List.set_cons_succ, List.getElem_toArray, List.getElem_cons_succ, List.getElem_cons_zero]
              refine wpAnyH_ready (rs := [9]) (by kernel_rfl) (by simp) (AllReadyH.cons rfl (fun K hK => ?_) (AllReadyH.nil))
              try simp only [List.getElem_toArray, List.getElem_cons_succ, List.getElem_cons_zero]
              go_simp
              refine hK.out _ _ (HS5.out) (fun hHeld => ?_)
              clear hK K
              try simp only [Act.put, List.setIfInBounds_toArray, List.set_cons_zero, List.set_cons_succ, List.getElem_toArray, List.getElem_cons_succ, List.getElem_cons_zero]
              have hh := FIN m2 m3 m1 m0 m4 (by have e0 := HM0.out; have e1 := HM1.out; have e2 := HM2.out; have e3 := HM3.out; have e4 := HM4.out; exact ⟨by omega, by omega⟩)
              apply hh
            · try simp only [List.getElem_toArray, List.getElem_cons_succ, List.getElem_cons_zero]
              go_simp
              refine hK.out _ _ (HS4.out) (fun hHeld => ?_)
              clear hK K
              try simp only [Act.put, List.setIfInBounds_toArray, List.set_cons_zero, List.set_cons_succ, List.getElem_toArray, List.getElem_cons_succ, List.getElem_cons_zero]
              refine wpAnyH_ready (rs := [6]) (by kernel_rfl) (by simp) (AllReadyH.cons rfl (fun K hK => ?_) (AllReadyH.nil))
              try simp only [List.getElem_toArray, List.getElem_cons_succ, List.getElem_cons_zero]
              go_simp
              refine hK.out _ _ (HS5.out) (fun hHeld => ?_)
              clear hK K
              try simp only [Act.put, List.setIfInBounds_toArray, List.set_cons_zero, List.set_cons_succ, List.getElem_toArray, List.getElem_cons_succ, List.getElem_cons_zero]
              have hh := FIN m2 m4 m1 m0 m3 (by have e0 := HM0.out; have e1 := HM1.out; have e2 := HM2.out; have e3 := HM3.out; have e4 := HM4.out; exact ⟨by omega, by omega⟩)
              apply hh
          · try simp only [List.getElem_toArray, List.getElem_cons_succ, List.getElem_cons_zero]
            go_simp
            refine hK.out _ _ (HS3.out) (fun hHeld => ?_)
            clear hK K
            try simp only [Act.put, List.setIfInBounds_toArray, List.set_cons_zero, List.set_cons_succ, List.getElem_toArray, List.getElem_cons_succ, List.getElem_cons_zero]
            refine wpAnyH_ready (rs := [5, 9]) (by kernel_rfl) (by simp) (AllReadyH.cons rfl (fun K hK => ?_) (AllReadyH.cons rfl (fun K hK => ?_) (AllReadyH.nil)))
            · try simp only [List.getElem_toArray, List.getElem_cons_succ, List.getElem_cons_zero]
              go_simp
              refine hK.out _ _ (HS4.out) (fun hHeld => ?_)
              clear hK K
              try simp only [Act.put, List.setIfInBounds_toArray, List.set_cons_zero, List.set_cons_succ, List.getElem_toArray, List.getElem_cons_succ, List.getElem_cons_zero]
              refine wpAnyH_ready (rs := [9]) (by kernel_rfl) (by simp) (AllReadyH.cons rfl (fun K hK => ?_) (AllReadyH.nil))
              try simp only [List.getElem_toArray, List.getElem_cons_succ, List.getElem_cons_zero]
              go_simp
              refine hK.out _ _ (HS5.out) (fun hHeld => ?_)
              clear hK K
              try simp only [Act.put, List.setIfInBounds_toArray, List.set_cons_zero, List.set_cons_succ, List.getElem_toArray, List.getElem_cons_succ, List.getElem_cons_zero]
              have hh := FIN m3 m2 m1 m0 m4 (by have e0 := HM0.out; have e1 := HM1.out; have e2 := HM2.out; have e3 := HM3.out; have e4 := HM4.out; exact ⟨by omega, by omega⟩)
              apply hh
            · try simp only [List.getElem_toArray, List.getElem_cons_succ, List.getElem_cons_zero]
              go_simp
              refine hK.out _ _ (HS4.out) (fun hHeld => ?_)
              clear hK K
              try simp only [Act.put, List.setIfInBounds_toArray, List.set_cons_zero, List.set_cons_succ, List.getElem_toArray, List.getElem_cons_succ, List.getElem_cons_zero]
              refine wpAnyH_ready (rs := [5]) (by kernel_rfl) (by simp) (AllReadyH.cons rfl (fun K hK => ?_) (AllReadyH.nil))
              try simp only [List.getElem_toArray, List.getElem_cons_succ, List.getElem_cons_zero]
              go_simp
              refine hK.out _ _ (HS5.out) (fun hHeld => ?_)
              clear hK K
              try simp only [Act.put, List.setIfInBounds_toArray, List.set_cons_zero, List.set_cons_succ, List.getElem_toArray, List.getElem_cons_succ, List.getElem_cons_zero]
              have hh := FIN m4 m2 m1 m0 m3 (by have e0 := HM0.out; have e1 := HM1.out; have e2 := HM2.out; have e3 := HM3.out; have e4 := HM4.out; exact ⟨by omega, by omega⟩)
              apply hh
          · try simp only [List.getElem_toArray, List.getElem_cons_succ, List.getElem_cons_zero]
            go_simp
            refine hK.out _ _ (HS3.out) (fun hHeld => ?_)
            clear hK K
            try simp only [Act.put, List.setIfInBounds_toArray, List.set_cons_zero, List.set_cons_succ, List.getElem_toArray, List.getElem_cons_succ, List.getElem_cons_zero]
            refine wpAnyH_ready (rs := [5, 6]) (by kernel_rfl) (by simp) (AllReadyH.cons rfl (fun K hK => ?_) (AllReadyH.cons rfl (fun K hK => ?_) (AllReadyH.nil)))
            · try simp only [List.getElem_toArray, List.getElem_cons_succ, List.getElem_cons_zero]
              go_simp
              refine hK.out _ _ (HS4.out) (fun hHeld => ?_)
              clear hK K
              try simp only [Act.put, List.setIfInBounds_toArray, List.set_cons_zero, List.set_cons_succ, List.getElem_toArray, List.getElem_cons_succ, List.getElem_cons_zero]
              refine wpAnyH_ready (rs := [6]) (by kernel_rfl) (by simp) (AllReadyH.cons rfl (fun K hK => ?_) (AllReadyH.nil))
              try simp only [List.getElem_toArray, List.getElem_cons_succ, List.getElem_cons_zero]
              go_simp
              refine hK.out _ _ (HS5.out) (fun hHeld => ?_)
              clear hK K
              try simp only [Act.put, List.setIfInBounds_toArray, List.set_cons_zero, List.set_cons_succ, List.getElem_toArray, List.getElem_cons_succ, List.getElem_cons_zero]
              have hh := FIN m3 m4 m1 m0 m2 (by have e0 := HM0.out; have e1 := HM1.out; have e2 := HM2.out; have e3 := HM3.out; have e4 := HM4.out; exact ⟨by omega, by omega⟩)
              apply hh
            · try simp only [List.getElem_toArray, List.getElem_cons_succ, List.getElem_cons_zero]
              go_simp
              refine hK.out _ _ (HS4.out) (fun hHeld => ?_)
              clear hK K
              try simp only [Act.put, List.setIfInBounds_toArray, List.set_cons_zero, List.set_cons_succ, List.getElem_toArray, List.getElem_cons_succ, List.getElem_cons_zero]
              refine wpAnyH_ready (rs := [5]) (by kernel_rfl) (by simp) (AllReadyH.cons rfl (fun K hK => ?_) (AllReadyH.nil))
              try simp only [List.getElem_toArray, List.getElem_cons_succ, List.getElem_cons_zero]
              go_simp
              refine hK.out _ _ (HS5.out) (fun hHeld => ?_)
              clear hK K
              try simp only [Act.put, List.setIfInBounds_toArray, List.set_cons_zero, List.set_cons_succ, List.getElem_toArray, List.getElem_cons_succ, List.getElem_cons_zero]
              have hh := FIN m4 m3 m1 m0 m2 (by have e0 := HM0.out; have e1 := HM1.out; have e2 := HM2.out; have e3 := HM3.out; have e4 := HM4.out; exact ⟨by omega, by omega⟩)
              apply hh
        · try simp only [List.getElem_toArray, List.getElem_cons_succ, List.getElem_cons_zero]
          go_simp
          refine hK.out _ _ (HS2.out) (fun hHeld => ?_)
          clear hK K
          try simp only [Act.put, List.setIfInBounds_toArray, List.set_cons_zero, List.set_cons_succ, List.getElem_toArray, List.getElem_cons_succ, List.getElem_cons_zero]
          refine wpAnyH_ready (rs := [5, 6, 7]) (by kernel_rfl) (by simp) (AllReadyH.cons rfl (fun K hK => ?_) (AllReadyH.cons rfl (fun K hK => ?_) (AllReadyH.cons rfl (fun K hK => ?_) (AllReadyH.nil))))
          · try simp only [List.getElem_toArray, List.getElem_cons_succ, List.getElem_cons_zero]
            go_simp
            refine hK.out _ _ (HS3.out) (fun hHeld => ?_)
            clear hK K
            try simp only [Act.put, List.setIfInBounds_toArray, List.set_cons_zero, List.set_cons_succ, List.getElem_toArray, List.getElem_cons_succ, List.getElem_cons_zero]
            refine wpAnyH_ready (rs := [6, 7]) (by kernel_rfl) (by simp) (AllReadyH.cons rfl (fun K hK => ?_) (AllReadyH.cons rfl (fun K hK => ?_) (AllReadyH.nil)))
            · try simp only [List.getElem_toArray, List.getElem_cons_succ, List.getElem_cons_zero]
              go_simp
              refine hK.out _ _ (HS4.out) (fun hHeld => ?_)
              clear hK K
              try simp only [Act.put, List.setIfInBounds_toArray, List.set_cons_zero, List.set_cons_succ, List.getElem_toArray, List.getElem_cons_succ, List.getElem_cons_zero]
              refine wpAnyH_ready (rs := [7]) (by kernel_rfl) (by simp) (AllReadyH.cons rfl (fun K hK => ?_) (AllReadyH.nil))
              try simp only [List.getElem_toArray, List.getElem_cons_succ, List.getElem_cons_zero]
              go_simp
              refine hK.out _ _ (HS5.out) (fun hHeld => ?_)
              clear hK K
              try simp only [Act.put, List.setIfInBounds_toArray, List.set_cons_zero, List.set_cons_succ, List.getElem_toArray, List.getElem_cons_succ, List.getElem_cons_zero]
              have hh := FIN m2 m3 m4 m0 m1 (by have e0 := HM0.out; have e1 := HM1.out; have e2 := HM2.out; have e3 := HM3.out; have e4 := HM4.out; exact ⟨by omega, by omega⟩)
              apply hh
            · try simp only [List.getElem_toArray, List.getElem_cons_succ, List.getElem_cons_zero]
              go_simp
              refine hK.out _ _ (HS4.out) (fun hHeld => ?_)
              clear hK K
              try simp only [Act.put, List.setIfInBounds_toArray, List.set_cons_zero, List.set_cons_succ, List.getElem_toArray, List.getElem_cons_succ, List.getElem_cons_zero]
              refine wpAnyH_ready (rs := [6]) (by kernel_rfl) (by simp) (AllReadyH.cons rfl (fun K hK => ?_) (AllReadyH.nil))
              try simp only [List.getElem_toArray, List.getElem_cons_succ, List.getElem_cons_zero]
              go_simp
              refine hK.out _ _ (HS5.out) (fun hHeld => ?_)
              clear hK K
              try simp only [Act.put, List.setIfInBounds_toArray, List.set_cons_zero, List.set_cons_succ, List.getElem_toArray, List.getElem_cons_succ, List.getElem_cons_zero]
              have hh := FIN m2 m4 m3 m0 m1 (by have e0 := HM0.out; have e1 := HM1.out; have e2 := HM2.out; have e3 := HM3.out; have e4 := HM4.out; exact ⟨by omega, by omega⟩)
              apply hh
          · try simp only [List.getElem_toArray, List.getElem_cons_succ, List.getElem_cons_zero]
            go_simp
            refine hK.out _ _ (HS3.out) (fun hHeld => ?_)
            clear hK K
            try simp only [Act.put, List.setIfInBounds_toArray, List.set_cons_zero, List.set_cons_succ, List.getElem_toArray, List.getElem_cons_succ, List.getElem_cons_zero]
            refine wpAnyH_ready (rs := [5, 7]) (by kernel_rfl) (by simp) (AllReadyH.cons rfl (fun K hK => ?_) (AllReadyH.cons rfl (fun K hK => ?_) (AllReadyH.nil)))
            · try simp only [List.getElem_toArray, List.getElem_cons_succ, List.getElem_cons_zero]
              go_simp
              refine hK.out _ _ (HS4.out) (fun hHeld => ?_)
              clear hK K
              try simp only [Act.put, List.setIfInBounds_toArray, List.set_cons_zero, List.set_cons_succ, List.getElem_toArray, List.getElem_cons_succ, List.getElem_cons_zero]
              refine wpAnyH_ready (rs := [7]) (by kernel_rfl) (by simp) (AllReadyH.cons rfl (fun K hK => ?_) (AllReadyH.nil))
              try simp only [List.getElem_toArray, List.getElem_cons_succ, List.getElem_cons_zero]
              go_simp
              refine hK.out _ _ (HS5.out) (fun hHeld => ?_)
              clear hK K
              try simp only [Act.put, List.setIfInBounds_toArray, List.set_cons_zero, List.set_cons_succ, List.getElem_toArray, List.getElem_cons_succ, List.getElem_cons_zero]
              have hh := FIN m3 m2 m4 m0 m1 (by have e0 := HM0.out; have e1 := HM1.out; have e2 := HM2.out; have e3 := HM3.out; have e4 := HM4.out; exact ⟨by omega, by omega⟩)
              apply hh
            · try simp only [List.getElem_toArray, List.getElem_cons_succ, List.getElem_cons_zero]
              go_simp
              refine hK.out _ _ (HS4.out) (fun hHeld => ?_)
              clear hK K
              try simp only [Act.put, List.setIfInBounds_toArray, List.set_cons_zero, List.set_cons_succ, List.getElem_toArray, List.getElem_cons_succ, List.getElem_cons_zero]
              refine wpAnyH_ready (rs := [5]) (by kernel_rfl) (by simp) (AllReadyH.cons rfl (fun K hK => ?_) (AllReadyH.nil))
              try simp only [List.getElem_toArray, List.getElem_cons_succ, List.getElem_cons_zero]
              go_simp
              refine hK.out _ _ (HS5.out) (fun hHeld => ?_)
              clear hK K
              try simp only [Act.put, List.setIfInBounds_toArray, List.set_cons_zero, List.set_cons_succ, List.getElem_toArray, List.getElem_cons_succ, List.getElem_cons_zero]
              have hh := FIN m4 m2 m3 m0 m1 (by have e0 := HM0.out; have e1 := HM1.out; have e2 := HM2.out; have e3 := HM3.out; have e4 := HM4.out; exact ⟨by omega, by omega⟩)
              apply hh
          · try simp only [List.getElem_toArray, List.getElem_cons_succ, List.getElem_cons_zero]
            go_simp
            refine hK.out _ _ (HS3.out) (fun hHeld => ?_)
            clear hK K
            try simp only [Act.put, List.setIfInBounds_toArray, List.set_cons_zero, List.set_cons_succ, List.getElem_toArray, List.getElem_cons_succ, List.getElem_cons_zero]
            refine wpAnyH_ready (rs := [5, 6]) (by kernel_rfl) (by simp) (AllReadyH.cons rfl (fun K hK => ?_) (AllReadyH.cons rfl (fun K hK => ?_) (AllReadyH.nil)))
            · try simp only [List.getElem_toArray, List.getElem_cons_succ, List.getElem_cons_zero]
              go_simp
              refine hK.out _ _ (HS4.out) (fun hHeld => ?_)
              clear hK K
              try simp only [Act.put, List.setIfInBounds_toArray, List.set_cons_zero, List.set_cons_succ, List.getElem_toArray, List.getElem_cons_succ, List.getElem_cons_zero]
              refine wpAnyH_ready (rs := [6]) (by kernel_rfl) (by simp) (AllReadyH.cons rfl (fun K hK => ?_) (AllReadyH.nil))
              try simp only [List.getElem_toArray, List.getElem_cons_succ, List.getElem_cons_zero]
              go_simp
              refine hK.out _ _ (HS5.out) (fun hHeld => ?_)
              clear hK K
              try simp only [Act.put, List.setIfInBounds_toArray, List.set_cons_zero, List.set_cons_succ, List.getElem_toArray, List.getElem_cons_succ, List.getElem_cons_zero]
              have hh := FIN m3 m4 m2 m0 m1 (by have e0 := HM0.out; have e1 := HM1.out; have e2 := HM2.out; have e3 := HM3.out; have e4 := HM4.out; exact ⟨by omega, by omega⟩)
              apply hh
            · try simp only [List.getElem_toArray, List.getElem_cons_succ, List.getElem_cons_zero]
              go_simp
              refine hK.out _ _ (HS4.out) (fun hHeld => ?_)
              clear hK K
              try simp only [Act.put, List.setIfInBounds_toArray, List.set_cons_zero, List.set_cons_succ, List.getElem_toArray, List.getElem_cons_succ, List.getElem_cons_zero]
              refine wpAnyH_ready (rs := [5]) (by kernel_rfl) (by simp) (AllReadyH.cons rfl (fun K hK => ?_) (AllReadyH.nil))
              try simp only [List.getElem_toArray, List.getElem_cons_succ, List.getElem_cons_zero]
              go_simp
              refine hK.out _ _ (HS5.out) (fun hHeld => ?_)
              clear hK K
              try simp only [Act.put, List.setIfInBounds_toArray, List.set_cons_zero, List.set_cons_succ, List.getElem_toArray, List.getElem_cons_succ, List.getElem_cons_zero]
              have hh := FIN m4 m3 m2 m0 m1 (by have e0 := HM0.out; have e1 := HM1.out; have e2 := HM2.out; have e3 := HM3.out; have e4 := HM4.out; exact ⟨by omega, by omega⟩)
              apply hh
      · try simp only [List.getElem_toArray, List.getElem_cons_succ, List.getElem_cons_zero]
        go_simp
        refine hK.out _ _ (HS1.out) (fun hHeld => ?_)
        clear hK K
        try simp only [Act.put, List.setIfInBounds_toArray, List.set_cons_zero, List.set_cons_succ, List.getElem_toArray, List.getElem_cons_succ, List.getElem_cons_zero]
        refine wpAnyH_ready (rs := [5, 6, 7, 8]) (by kernel_rfl) (by simp) (AllReadyH.cons rfl (fun K hK => ?_) (AllReadyH.cons rfl (fun K hK => ?_) (AllReadyH.cons rfl (fun K hK => ?_) (AllReadyH.cons rfl (fun K hK => ?_) (AllReadyH.nil)))))
        · try simp only [List.getElem_toArray, List.getElem_cons_succ, List.getElem_cons_zero]
          go_simp
          refine hK.out _ _ (HS2.out) (fun hHeld => ?_)
          clear hK K
          try simp only [Act.put, List.setIfInBounds_toArray, List.set_cons_zero, List.set_cons_succ, List.getElem_toArray, List.getElem_cons_succ, List.getElem_cons_zero]
          refine wpAnyH_ready (rs := [6, 7, 8]) (by kernel_rfl) (by simp) (AllReadyH.cons rfl (fun K hK => ?_) (AllReadyH.cons rfl (fun K hK => ?_) (AllReadyH.cons rfl (fun K hK => ?_) (AllReadyH.nil))))
          · try simp only [List.getElem_toArray, List.getElem_cons_succ, List.getElem_cons_zero]
            go_simp
            refine hK.out _ _ (HS3.out) (fun hHeld => ?_)
            clear hK K
            try simp only [Act.put, List.setIfInBounds_toArray, List.set_cons_zero, List.set_cons_succ, List.getElem_toArray, List.getElem_cons_succ, List.getElem_cons_zero]
            refine wpAnyH_ready (rs := [7, 8]) (by kernel_rfl) (by simp) (AllReadyH.cons rfl (fun K hK => ?_) (AllReadyH.cons rfl (fun K hK => ?_) (AllReadyH.nil)))
            · try simp only [List.getElem_toArray, List.getElem_cons_succ, List.getElem_cons_zero]
              go_simp
              refine hK.out _ _ (HS4.out) (fun hHeld => ?_)
              clear hK K
              try simp only [Act.put, List.setIfInBounds_toArray, List.set_cons_zero, List.set_cons_succ, List.getElem_toArray, List.getElem_cons_succ, List.getElem_cons_zero]
              refine wpAnyH_ready (rs := [8]) (by kernel_rfl) (by simp) (AllReadyH.cons rfl (fun K hK => ?_) (AllReadyH.nil))
              try simp only [List.getElem_toArray, List.getElem_cons_succ, List.getElem_cons_zero]
              go_simp
              refine hK.out _ _ (HS5.out) (fun hHeld => ?_)
              clear hK K
              try simp only [Act.put, List.setIfInBounds_toArray, List.set_cons_zero, List.set_cons_succ, List.getElem_toArray, List.getElem_cons_succ, List.getElem_cons_zero]
              have hh := FIN m1 m2 m3 m4 m0 (by have e0 := HM0.out; have e1 := HM1.out; have e2 := HM2.out; have e3 := HM3.out; have e4 := HM4.out; exact ⟨by omega, by omega⟩)
              apply hh
            · try simp only [List.getElem_toArray, List.getElem_cons_succ, List.getElem_cons_zero]
              go_simp
              refine hK.out _ _ (HS4.out) (fun hHeld => ?_)
              clear hK K
              try simp only [Act.put, List.setIfInBounds_toArray, List.set_cons_zero, List.set_cons_succ, List.getElem_toArray, List.getElem_cons_succ, List.getElem_cons_zero]
              refine wpAnyH_ready (rs := [7]) (by kernel_rfl) (by simp) (AllReadyH.cons rfl (fun K hK => ?_) (AllReadyH.nil))
              try simp only [List.getElem_toArray, List.getElem_cons_succ, List.getElem_cons_zero]
              go_simp
              refine hK.out _ _ (HS5.out) (fun hHeld => ?_)
              clear hK K
              try simp only [Act.put, List.setIfInBounds_toArray, List.set_cons_zero, List.set_cons_succ, List.getElem_toArray, List.getElem_cons_succ, List.getElem_cons_zero]
              have hh := FIN m1 m2 m4 m3 m0 (by have e0 := HM0.out; have e1 := HM1.out; have e2 := HM2.out; have e3 := HM3.out; have e4 := HM4.out; exact ⟨by omega, by omega⟩)
              apply hh
          · try simp only [List.getElem_toArray, List.getElem_cons_succ, List.getElem_cons_zero]
            go_simp
            refine hK.out _ _ (HS3.out) (fun hHeld => ?_)
            clear hK K
            try simp only [Act.put, List.setIfInBounds_toArray, List.set_cons_zero, List.set_cons_succ, List.getElem_toArray, List.getElem_cons_succ, List.getElem_cons_zero]
            refine wpAnyH_ready (rs := [6, 8]) (by kernel_rfl) (by simp) (AllReadyH.cons rfl (fun K hK => ?_) (AllReadyH.cons rfl (fun K hK => ?_) (AllReadyH.nil)))
            · try simp only [List.getElem_toArray, List.getElem_cons_succ, List.getElem_cons_zero]
              go_simp
              refine hK.out _ _ (HS4.out) (fun hHeld => ?_)
              clear hK K
              try simp only [Act.put, List.setIfInBounds_toArray, List.set_cons_zero, List.set_cons_succ, List.getElem_toArray, List.getElem_cons_succ, List.getElem_cons_zero]
              refine wpAnyH_ready (rs := [8]) (by kernel_rfl) (by simp) (AllReadyH.cons rfl (fun K hK => ?_) (AllReadyH.nil))
              try simp only [List.getElem_toArray, List.getElem_cons_succ, List.getElem_cons_zero]
              go_simp
              refine hK.out _ _ (HS5.out) (fun hHeld => ?_)
              clear hK K
              try simp only [Act.put, List.setIfInBounds_toArray, List.set_cons_zero, List.set_cons_succ, List.getElem_toArray, List.getElem_cons_succ, List.getElem_cons_zero]
              have hh := FIN m1 m3 m2 m4 m0 (by have e0 := HM0.out; have e1 := HM1.out; have e2 := HM2.out; have e3 := HM3.out; have e4 := HM4.out; exact ⟨by omega, by omega⟩)
              apply hh
            · try simp only [List.getElem_toArray, List.getElem_cons_succ, List.getElem_cons_zero]
              go_simp
              refine hK.out _ _ (HS4.out) (fun hHeld => ?_)
              clear hK K
              try simp only [Act.put, List.setIfInBounds_toArray, List.set_cons_zero, List.set_cons_succ, List.getElem_toArray, List.getElem_cons_succ, List.getElem_cons_zero]
              refine wpAnyH_ready (rs := [6]) (by kernel_rfl) (by simp) (AllReadyH.cons rfl (fun K hK => ?_) (AllReadyH.nil))
              try simp only [List.getElem_toArray, List.getElem_cons_succ, List.getElem_cons_zero]
              go_simp
              refine hK.out _ _ (HS5.out) (fun hHeld => ?_)
              clear hK K
              try simp only [Act.put, List.setIfInBounds_toArray, List.set_cons_zero, List.set_cons_succ, List.getElem_toArray, List.getElem_cons_succ, List.getElem_cons_zero]
              have hh := FIN m1 m4 m2 m3 m0 (by have e0 := HM0.out; have e1 := HM1.out; have e2 := HM2.out; have e3 := HM3.out; have e4 := HM4.out; exact ⟨by omega, by omega⟩)
              apply hh
          · try simp only [List.getElem_toArray, List.getElem_cons_succ, List.getElem_cons_zero]
            go_simp
            refine hK.out _ _ (HS3.out) (fun hHeld => ?_)
            clear hK K
            try simp only [Act.put, List.setIfInBounds_toArray, List.set_cons_zero, List.set_cons_succ, List.getElem_toArray, List.getElem_cons_succ, List.getElem_cons_zero]
            refine wpAnyH_ready (rs := [6, 7]) (by kernel_rfl) (by simp) (AllReadyH.cons rfl (fun K hK => ?_) (AllReadyH.cons rfl (fun K hK => ?_) (AllReadyH.nil)))
            · try simp only [List.getElem_toArray, List.getElem_cons_succ, List.getElem_cons_zero]
              go_simp
              refine hK.out _ _ (HS4.out) (fun hHeld => ?_)
              clear hK K
              try simp only [Act.put, List.setIfInBounds_toArray, List.set_cons_zero, List.set_cons_succ, List.getElem_toArray, List.getElem_cons_succ, List.getElem_cons_zero]
              refine wpAnyH_ready (rs := [7]) (by kernel_rfl) (by simp) (AllReadyH.cons rfl (fun K hK => ?_) (AllReadyH.nil))
              try simp only [List.getElem_toArray, List.getElem_cons_succ, List.getElem_cons_zero]
              go_simp
              refine hK.out _ _ (HS5.out) (fun hHeld => ?_)
              clear hK K
              try simp only [Act.put, List.setIfInBounds_toArray, List.set_cons_zero, List.set_cons_succ, List.getElem_toArray, List.getElem_cons_succ, List.getElem_cons_zero]
              have hh := FIN m1 m3 m4 m2 m0 (by have e0 := HM0.out; have e1 := HM1.out; have e2 := HM2.out; have e3 := HM3.out; have e4 := HM4.out; exact ⟨by omega, by omega⟩)
              apply hh
            · try simp only [List.getElem_toArray, List.getElem_cons_succ, List.getElem_cons_zero]
              go_simp
              refine hK.out _ _ (HS4.out) (fun hHeld => ?_)
              clear hK K
              try simp only [Act.put, List.setIfInBounds_toArray, List.set_cons_zero, List.set_cons_succ, List.getElem_toArray, List.getElem_cons_succ, List.getElem_cons_zero]
              refine wpAnyH_ready (rs := [6]) (by kernel_rfl) (by simp) (AllReadyH.cons rfl (fun K hK => ?_) (AllReadyH.nil))
              try simp only [List.getElem_toArray, List.getElem_cons_succ, List.getElem_cons_zero]
              go_simp
              refine hK.out _ _ (HS5.out) (fun hHeld => ?_)
              clear hK K
              try simp only [Act.put, List.setIfInBounds_toArray, List.set_cons_zero, List.set_cons_succ, List.getElem_toArray, List.getElem_cons_succ, List.getElem_cons_zero]
              have hh := FIN m1 m4 m3 m2 m0 (by have e0 := HM0.out; have e1 := HM1.out; have e2 := HM2.out; have e3 := HM3.out; have e4 := HM4.out; exact ⟨by omega, by omega⟩)
              apply hh
        · try simp only [List.getElem_toArray, List.getElem_cons_succ, List.getElem_cons_zero]
          go_simp
          refine hK.out _ _ (HS2.out) (fun hHeld => ?_)
          clear hK K
          try simp only [Act.put, List.setIfInBounds_toArray, List.set_cons_zero, List.set_cons_succ, List.getElem_toArray, List.getElem_cons_succ, List.getElem_cons_zero]
          refine wpAnyH_ready (rs := [5, 7, 8]) (by kernel_rfl) (by simp) (AllReadyH.cons rfl (fun K hK => ?_) (AllReadyH.cons rfl (fun K hK => ?_) (AllReadyH.cons rfl (fun K hK => ?_) (AllReadyH.nil))))
          · try simp only [List.getElem_toArray, List.getElem_cons_succ, List.getElem_cons_zero]
            go_simp
            refine hK.out _ _ (HS3.out) (fun hHeld => ?_)
            clear hK K
            try simp only [Act.put, List.setIfInBounds_toArray, List.set_cons_zero, List.set_cons_succ, List.getElem_toArray, List.getElem_cons_succ, List.getElem_cons_zero]
            refine wpAnyH_ready (rs := [7, 8]) (by kernel_rfl) (by simp) (AllReadyH.cons rfl (fun K hK => ?_) (AllReadyH.cons rfl (fun K hK => ?_) (AllReadyH.nil)))
            · try simp only [List.getElem_toArray, List.getElem_cons_succ, List.getElem_cons_zero]
              go_simp
              refine hK.out _ _ (HS4.out) (fun hHeld => ?_)
              clear hK K
              try simp only [Act.put, List.setIfInBounds_toArray, List.set_cons_zero, List.set_cons_succ, List.getElem_toArray, List.getElem_cons_succ, List.getElem_cons_zero]
              refine wpAnyH_ready (rs := [8]) (by kernel_rfl) (by simp) (AllReadyH.cons rfl (fun K hK => ?_) (AllReadyH.nil))
              try simp only [List.getElem_toArray, List.getElem_cons_succ, List.getElem_cons_zero]
              go_simp
              refine hK.out _ _ (HS5.out) (fun hHeld => ?_)
              clear hK K
              try simp only [Act.put, List.setIfInBounds_toArray, List.set_cons_zero, List.set_cons_succ, List.getElem_toArray, List.getElem_cons_succ, List.getElem_cons_zero]
              have hh := FIN m2 m1 m3 m4 m0 (by have e0 := HM0.out; have e1 := HM1.out; have e2 := HM2.out; have e3 := HM3.out; have e4 := HM4.out; exact ⟨by omega, by omega⟩)
              apply hh
            · try simp only [List.getElem_toArray, List.getElem_cons_succ, List.getElem_cons_zero]
              go_simp
              refine hK.out _ _ (HS4.out) (fun hHeld => ?_)
              clear hK K
              try simp only [Act.put, List.setIfInBounds_toArray, List.set_cons_zero, List.set_cons_succ, List.getElem_toArray, List.getElem_cons_succ, List.getElem_cons_zero]
              refine wpAnyH_ready (rs := [7]) (by kernel_rfl) (by simp) (AllReadyH.cons rfl (fun K hK => ?_) (AllReadyH.nil))
              try simp only [List.getElem_toArray, List.getElem_cons_succ, List.getElem_cons_zero]
              go_simp
              refine hK.out _ _ (HS5.out) (fun hHeld => ?_)
              clear hK K
              try simp only [Act.put, List.setIfInBounds_toArray, List.set_cons_zero, List.set_cons_succ, List.getElem_toArray, List.getElem_cons_succ, List.getElem_cons_zero]
              have hh := FIN m2 m1 m4 m3 m0 (by have e0 := HM0.out; have e1 := HM1.out; have e2 := HM2.out; have e3 := HM3.out; have e4 := HM4.out; exact ⟨by omega, by omega⟩)
              apply hh
          · try simp only [List.getElem_toArray, List.getElem_cons_succ, List.getElem_cons_zero]
            go_simp
            refine hK.out _ _ (HS3.out) (fun hHeld => ?_)
            clear hK K
            try simp only [Act.put, List.setIfInBounds_toArray, List.set_cons_zero, List.set_cons_succ, List.getElem_toArray, List.getElem_cons_succ, List.getElem_cons_zero]
            refine wpAnyH_ready (rs := [5, 8]) (by kernel_rfl) (by simp) (AllReadyH.cons rfl (fun K hK => ?_) (AllReadyH.cons rfl (fun K hK => ?_) (AllReadyH.nil)))
            · try simp only [List.getElem_toArray, List.getElem_cons_succ, List.getElem_cons_zero]
              go_simp
              refine hK.out _ _ (HS4.out) (fun hHeld => ?_)
              clear hK K
              try simp only [Act.put, List.setIfInBounds_toArray, List.set_cons_zero, List.set_cons_succ, List.getElem_toArray, List.getElem_cons_succ, List.getElem_cons_zero]
              refine wpAnyH_ready (rs := [8]) (by kernel_rfl) (by simp) (AllReadyH.cons rfl (fun K hK => ?_) (AllReadyH.nil))
              try simp only [List.getElem_toArray, List.getElem_cons_succ, List.getElem_cons_zero]
              go_simp
              refine hK.out _ _ (HS5.out) (fun hHeld => ?_)
              clear hK K
              try simp only [Act.put, List.setIfInBounds_toArray, List.set_cons_zero, List.set_cons_succ, List.getElem_toArray, List.getElem_cons_succ, List.getElem_cons_zero]
              have hh := FIN m3 m1 m2 m4 m0 (by have e0 := HM0.out; have e1 := HM1.out; have e2 := HM2.out; have e3 := HM3.out; have e4 := HM4.out; exact ⟨by omega, by omega⟩)
              apply hh
            · try simp only [List.getElem_toArray, List.getElem_cons_succ, List.getElem_cons_zero]
              go_simp
              refine hK.out _ _ (HS4.out) (fun hHeld => ?_)
              clear hK K
              try simp only [Act.put, List.setIfInBounds_toArray, List.set_cons_zero, List.set_cons_succ, List.getElem_toArray, List.getElem_cons_succ, List.getElem_cons_zero]
              refine wpAnyH_ready (rs := [5]) (by kernel_rfl) (by simp) (AllReadyH.cons rfl (fun K hK => ?_) (AllReadyH.nil))
              try simp only [List.getElem_toArray, List.getElem_cons_succ, List.getElem_cons_zero]
              go_simp
              refine hK.out _ _ (HS5.out) (fun hHeld => ?_)
              clear hK K
              try simp only [Act.put, List.setIfInBounds_toArray, List.set_cons_zero, List.set_cons_succ, List.getElem_toArray, List.getElem_cons_succ, List.getElem_cons_zero]
              have hh := FIN m4 m1 m2 m3 m0 (by have e0 := HM0.out; have e1 := HM1.out; have e2 := HM2.out; have e3 := HM3.out; have e4 := HM4.out; exact ⟨by omega, by omega⟩)
              apply hh
          · try simp only [List.getElem_toArray, List.getElem_cons_succ, List.getElem_cons_zero]
            go_simp
            refine hK.out _ _ (HS3.out) (fun hHeld => ?_)
            clear hK K
            try simp only [Act.put, List.setIfInBounds_toArray, List.set_cons_zero, List.set_cons_succ, List.getElem_toArray, List.getElem_cons_succ, List.getElem_cons_zero]
            refine wpAnyH_ready (rs := [5, 7]) (by kernel_rfl) (by simp) (AllReadyH.cons rfl (fun K hK => ?_) (AllReadyH.cons rfl (fun K hK => ?_) (AllReadyH.nil)))
            · try simp only [List.getElem_toArray, List.getElem_cons_succ, List.getElem_cons_zero]
              go_simp
              refine hK.out _ _ (HS4.out) (fun hHeld => ?_)
              clear hK K
              try simp only [Act.put, List.setIfInBounds_toArray, List.set_cons_zero, List.set_cons_succ, List.getElem_toArray, List.getElem_cons_succ, List.getElem_cons_zero]
              refine wpAnyH_ready (rs := [7]) (by kernel_rfl) (by simp) (AllReadyH.cons rfl (fun K hK => ?_) (AllReadyH.nil))
              try simp only [List.getElem_toArray, List.getElem_cons_succ, List.getElem_cons_zero]
              go_simp
              refine hK.out _ _ (HS5.out) (fun hHeld => ?_)
              clear hK K
              try simp only [Act.put, List.setIfInBounds_toArray, List.set_cons_zero, List.set_cons_succ, List.getElem_toArray, List.getElem_cons_succ, List.getElem_cons_zero]
              have hh := FIN m3 m1 m4 m2 m0 (by have e0 := HM0.out; have e1 := HM1.out; have e2 := HM2.out; have e3 := HM3.out; have e4 := HM4.out; exact ⟨by omega, by omega⟩)
              apply hh
            · try simp only [List.getElem_toArray, List.getElem_cons_succ, List.getElem_cons_zero]
              go_simp
              refine hK.out _ _ (HS4.out) (fun hHeld => ?_)
              clear hK K
              try simp only [Act.put, List.setIfInBounds_toArray, List.set_cons_zero, List.set_cons_succ, List.getElem_toArray, List.getElem_cons_succ, List.getElem_cons_zero]
              refine wpAnyH_ready (rs := [5]) (by kernel_rfl) (by simp) (AllReadyH.cons rfl (fun K hK => ?_) (AllReadyH.nil))
              try simp only [List.getElem_toArray, List.getElem_cons_succ, List.getElem_cons_zero]
              go_simp
              refine hK.out _ _ (HS5.out) (fun hHeld => ?_)
              clear hK K
              try simp only [Act.put, List.setIfInBounds_toArray, List.set_cons_zero, List.set_cons_succ, List.getElem_toArray, List.getElem_cons_succ, List.getElem_cons_zero]
              have hh := FIN m4 m1 m3 m2 m0 (by have e0 := HM0.out; have e1 := HM1.out; have e2 := HM2.out; have e3 := HM3.out; have e4 := HM4.out; exact ⟨by omega, by omega⟩)
              apply hh
        · try simp only [List.getElem_toArray, List.getElem_cons_succ, List.getElem_cons_zero]
          go_simp
          refine hK.out _ _ (HS2.out) (fun hHeld => ?_)
          clear hK K
          try simp only [Act.put, List.setIfInBounds_toArray, List.set_cons_zero, List.set_cons_succ, List.getElem_toArray, List.getElem_cons_succ, List.getElem_cons_zero]
          refine wpAnyH_ready (rs := [5, 6, 8]) (by kernel_rfl) (by simp) (AllReadyH.cons rfl (fun K hK => ?_) (AllReadyH.cons rfl (fun K hK => ?_) (AllReadyH.cons rfl (fun K hK => ?_) (AllReadyH.nil))))
          · try simp only [List.getElem_toArray, List.getElem_cons_succ, List.getElem_cons_zero]
            go_simp
            refine hK.out _ _ (HS3.out) (fun hHeld => ?_)
            clear hK K
            try simp only [Act.put, List.setIfInBounds_toArray, List.set_cons_zero, List.set_cons_succ, List.getElem_toArray, List.getElem_cons_succ, List.getElem_cons_zero]
            refine wpAnyH_ready (rs := [6, 8]) (by kernel_rfl) (by simp) (AllReadyH.cons rfl (fun K hK => ?_) (AllReadyH.cons rfl (fun K hK => ?_) (AllReadyH.nil)))
            · try simp only [List.getElem_toArray, List.getElem_cons_succ, List.getElem_cons_zero]
              go_simp
              refine hK.out _ _ (HS4.out) (fun hHeld => ?_)
              clear hK K
              try simp only [Act.put, List.setIfInBounds_toArray, List.set_cons_zero, List.set_cons_succ, List.getElem_toArray, List.getElem_cons_succ, List.getElem_cons_zero]
              refine wpAnyH_ready (rs := [8]) (by kernel_rfl) (by simp) (AllReadyH.cons rfl (fun K hK => ?_) (AllReadyH.nil))
              try simp only [List.getElem_toArray, List.getElem_cons_succ, List.getElem_cons_zero]
              go_simp
              refine hK.out _ _ (HS5.out) (fun hHeld => ?_)
              clear hK K
              try simp only [Act.put, List.setIfInBounds_toArray, List.set_cons_zero, List.set_cons_succ, List.getElem_toArray, List.getElem_cons_succ, List.getElem_cons_zero]
              have hh := FIN m2 m3 m1 m4 m0 (by have e0 := HM0.out; have e1 := HM1.out; have e2 := HM2.out; have e3 := HM3.out; have e4 := HM4.out; exact ⟨by omega, by omega⟩)
              apply hh
            · try simp only [List.getElem_toArray, List.getElem_cons_succ, List.getElem_cons_zero]
              go_simp
              refine hK.out _ _ (HS4.out) (fun hHeld => ?_)
              clear hK K
              try simp only [Act.put, List.setIfInBounds_toArray, List.set_cons_zero, List.set_cons_succ, List.getElem_toArray, List.getElem_cons_succ, List.getElem_cons_zero]
              refine wpAnyH_ready (rs := [6]) (by kernel_rfl) (by simp) (AllReadyH.cons rfl (fun K hK => ?_) (AllReadyH.nil))
              try simp only [List.getElem_toArray, List.getElem_cons_succ, List.getElem_cons_zero]
              go_simp
              refine hK.out _ _ (HS5.out) (fun hHeld => ?_)
              clear hK K
              try simp only [Act.put, List.setIfInBounds_toArray, List.set_cons_zero, List.set_cons_succ, List.getElem_toArray, List.getElem_cons_succ, List.getElem_cons_zero]
              have hh := FIN m2 m4 m1 m3 m0 (by have e0 := HM0.out; have e1 := HM1.out; have e2 := HM2.out; have e3 := HM3.out; have e4 := HM4.out; exact ⟨by omega, by omega⟩)
              apply hh
          · try simp only [List.getElem_toArray, List.getElem_cons_succ, List.getElem_cons_zero]
            go_simp
            refine hK.out _ _ (HS3.out) (fun hHeld => ?_)
            clear hK K
            try simp only [Act.put, List.setIfInBounds_toArray, List.set_cons_zero, List.set_cons_succ, List.getElem_toArray, List.getElem_cons_succ, List.getElem_cons_zero]
            refine wpAnyH_ready (rs := [5, 8]) (by kernel_rfl) (by simp) (AllReadyH.cons rfl (fun K hK => ?_) (AllReadyH.cons rfl (fun K hK => ?_) (AllReadyH.nil)))
            · try simp only [List.getElem_toArray, List.getElem_cons_succ, List.getElem_cons_zero]
              go_simp
              refine hK.out _ _ (HS4.out) (fun hHeld => ?_)
              clear hK K
              try simp only [Act.put, List.setIfInBounds_toArray, List.set_cons_zero, List.set_cons_succ, List.getElem_toArray, List.getElem_cons_succ, List.getElem_cons_zero]
              refine wpAnyH_ready (rs := [8]) (by kernel_rfl) (by simp) (AllReadyH.cons rfl (fun K hK => ?_) (AllReadyH.nil))
              try simp only [List.getElem_toArray, List.getElem_cons_succ, List.getElem_cons_zero]
              go_simp
              refine hK.out _ _ (HS5.out) (fun hHeld => ?_)
              clear hK K
              try simp only [Act.put, List.setIfInBounds_toArray, List.set_cons_zero, List.set_cons_succ, List.getElem_toArray, List.getElem_cons_succ, List.getElem_cons_zero]
              have hh := FIN m3 m2 m1 m4 m0 (by have e0 := HM0.out; have e1 := HM1.out; have e2 := HM2.out; have e3 := HM3.out; have e4 := HM4.out; exact ⟨by omega, by omega⟩)
              apply hh
            · try simp only [List.getElem_toArray, List.getElem_cons_succ, List.getElem_cons_zero]
              go_simp
              refine hK.out _ _ (HS4.out) (fun hHeld => ?_)
              clear hK K
              try simp only [Act.put, List.setIfInBounds_toArray, List.set_cons_zero, List.set_cons_succ, List.getElem_toArray, List.getElem_cons_succ, List.getElem_cons_zero]
              refine wpAnyH_ready (rs := [5]) (by kernel_rfl) (by simp) (AllReadyH.cons rfl (fun K hK => ?_) (AllReadyH.nil))
              try simp only [List.getElem_toArray, List.getElem_cons_succ, List.getElem_cons_zero]
              go_simp
              refine hK.out _ _ (HS5.out) (fun hHeld => ?_)
              clear hK K
              try simp only [Act.put, List.setIfInBounds_toArray, List.set_cons_zero, List.set_cons_succ, List.getElem_toArray, List.getElem_cons_succ, List.getElem_cons_zero]
              have hh := FIN m4 m2 m1 m3 m0 (by have e0 := HM0.out; have e1 := HM1.out; have e2 := HM2.out; have e3 := HM3.out; have e4 := HM4.out; exact ⟨by omega, by omega⟩)
              apply hh
          · try simp only [List.getElem_toArray, List.getElem_cons_succ, List.getElem_cons_zero]
            go_simp
            refine hK.out _ _ (HS3.out) (fun hHeld => ?_)
            clear hK K
            try simp only [Act.put, List.setIfInBounds_toArray, List.set_cons_zero, List.set_cons_succ, List.getElem_toArray, List.getElem_cons_succ, List.getElem_cons_zero]
            refine wpAnyH_ready (rs := [5, 6]) (by kernel_rfl) (by simp) (AllReadyH.cons rfl (fun K hK => ?_) (AllReadyH.cons rfl (fun K hK => ?_) (AllReadyH.nil)))
            · try simp only [List.getElem_toArray, List.getElem_cons_succ, List.getElem_cons_zero]
              go_simp
              refine hK.out _ _ (HS4.out) (fun hHeld => ?_)
              clear hK K
              try simp only [Act.put, List.setIfInBounds_toArray, List.set_cons_zero, List.set_cons_succ, List.getElem_toArray, List.getElem_cons_succ, List.getElem_cons_zero]
              refine wpAnyH_ready (rs := [6]) (by kernel_rfl) (by simp) (AllReadyH.cons rfl (fun K hK => ?_) (AllReadyH.nil))
              try simp only [List.getElem_toArray, List.getElem_cons_succ, List.getElem_cons_zero]
              go_simp
              refine hK.out _ _ (HS5.out) (fun hHeld => ?_)
              clear hK K
              try simp only [Act.put, List.setIfInBounds_toArray, List.set_cons_zero, List.set_cons_succ, List.getElem_toArray, List.getElem_cons_succ, List.getElem_cons_zero]
              have hh := FIN m3 m4 m1 m2 m0 (by have e0 := HM0.out; have e1 := HM1.out; have e2 := HM2.out; have e3 := HM3.out; have e4 := HM4.out; exact ⟨by omega, by omega⟩)
              apply hh
            · try simp only [List.getElem_toArray, List.getElem_cons_succ, List.getElem_cons_zero]
              go_simp
              refine hK.out _ _ (HS4.out) (fun hHeld => ?_)
              clear hK K
              try simp only [Act.put, List.setIfInBounds_toArray, List.set_cons_zero, List.set_cons_succ, List.getElem_toArray, List.getElem_cons_succ, List.getElem_cons_zero]
              refine wpAnyH_ready (rs := [5]) (by kernel_rfl) (by simp) (AllReadyH.cons rfl (fun K hK => ?_) (AllReadyH.nil))
              try simp only [List.getElem_toArray, List.getElem_cons_succ, List.getElem_cons_zero]
              go_simp
              refine hK.out _ _ (HS5.out) (fun hHeld => ?_)
              clear hK K
              try simp only [Act.put, List.setIfInBounds_toArray, List.set_cons_zero, List.set_cons_succ, List.getElem_toArray, List.getElem_cons_succ, List.getElem_cons_zero]
              have hh := FIN m4 m3 m1 m2 m0 (by have e0 := HM0.out; have e1 := HM1.out; have e2 := HM2.out; have e3 := HM3.out; have e4 := HM4.out; exact ⟨by omega, by omega⟩)
              apply hh
        · try simp only [List.getElem_toArray, List.getElem_cons_succ, List.getElem_cons_zero]
          go_simp
          refine hK.out _ _ (HS2.out) (fun hHeld => ?_)
          clear hK K
          try simp only [Act.put, List.setIfInBounds_toArray, List.set_cons_zero, List.set_cons_succ, List.getElem_toArray, List.getElem_cons_succ, List.getElem_cons_zero]
          refine wpAnyH_ready (rs := [5, 6, 7]) (by kernel_rfl) (by simp) (AllReadyH.cons rfl (fun K hK => ?_) (AllReadyH.cons rfl (fun K hK => ?_) (AllReadyH.cons rfl (fun K hK => ?_) (AllReadyH.nil))))
          · try simp only [List.getElem_toArray, List.getElem_cons_succ, List.getElem_cons_zero]
            go_simp
            refine hK.out _ _ (HS3.out) (fun hHeld => ?_)
            clear hK K
            try simp only [Act.put, List.setIfInBounds_toArray, List.set_cons_zero, List.set_cons_succ, List.getElem_toArray, List.getElem_cons_succ, List.getElem_cons_zero]
            refine wpAnyH_ready (rs := [6, 7]) (by kernel_rfl) (by simp) (AllReadyH.cons rfl (fun K hK => ?_) (AllReadyH.cons rfl (fun K hK => ?_) (AllReadyH.nil)))
            · try simp only [List.getElem_toArray, List.getElem_cons_succ, List.getElem_cons_zero]
              go_simp
              refine hK.out _ _ (HS4.out) (fun hHeld => ?_)
              clear hK K
              try simp only [Act.put, List.setIfInBounds_toArray, List.set_cons_zero, List.set_cons_succ, List.getElem_toArray, List.getElem_cons_succ, List.getElem_cons_zero]
              refine wpAnyH_ready (rs := [7]) (by kernel_rfl) (by simp) (AllReadyH.cons rfl (fun K hK => ?_) (AllReadyH.nil))
              try simp only [List.getElem_toArray, List.getElem_cons_succ, List.getElem_cons_zero]
              go_simp
              refine hK.out _ _ (HS5.out) (fun hHeld => ?_)
              clear hK K
              try simp only [Act.put, List.setIfInBounds_toArray, List.set_cons_zero, List.set_cons_succ, List.getElem_toArray, List.getElem_cons_succ, List.getElem_cons_zero]
              have hh := FIN m2 m3 m4 m1 m0 (by have e0 := HM0.out; have e1 := HM1.out; have e2 := HM2.out; have e3 := HM3.out; have e4 := HM4.out; exact ⟨by omega, by omega⟩)
              apply hh
            · try simp only [List.getElem_toArray, List.getElem_cons_succ, List.getElem_cons_zero]
              go_simp
              refine hK.out _ _ (HS4.out) (fun hHeld => ?_)
              clear hK K
              try simp only [Act.put, List.setIfInBounds_toArray, List.set_cons_zero, List.set_cons_succ, List.getElem_toArray, List.getElem_cons_succ, List.getElem_cons_zero]
              refine wpAnyH_ready (rs := [6]) (by kernel_rfl) (by simp) (AllReadyH.cons rfl (fun K hK => ?_) (AllReadyH.nil))
              try simp only [List.getElem_toArray, List.getElem_cons_succ, List.getElem_cons_zero]
              go_simp
              refine hK.out _ _ (HS5.out) (fun hHeld => ?_)
              clear hK K
              try simp only [Act.put, List.setIfInBounds_toArray, List.set_cons_zero, List.set_cons_succ, List.getElem_toArray, List.getElem_cons_succ, List.getElem_cons_zero]
              have hh := FIN m2 m4 m3 m1 m0 (by have e0 := HM0.out; have e1 := HM1.out; have e2 := HM2.out; have e3 := HM3.out; have e4 := HM4.out; exact ⟨by omega, by omega⟩)
              apply hh
          · try simp only [List.getElem_toArray, List.getElem_cons_succ, List.getElem_cons_zero]
            go_simp
            refine hK.out _ _ (HS3.out) (fun hHeld => ?_)
            clear hK K
            try simp only [Act.put, List.setIfInBounds_toArray, List.set_cons_zero, List.set_cons_succ, List.getElem_toArray, List.getElem_cons_succ, List.getElem_cons_zero]
            refine wpAnyH_ready (rs := [5, 7]) (by kernel_rfl) (by simp) (AllReadyH.cons rfl (fun K hK => ?_) (AllReadyH.cons rfl (fun K hK => ?_) (AllReadyH.nil)))
            · try simp only [List.getElem_toArray, List.getElem_cons_succ, List.getElem_cons_zero]
              go_simp
              refine hK.out _ _ (HS4.out) (fun hHeld => ?_)
              clear hK K
              try simp only [Act.put, List.setIfInBounds_toArray, List.set_cons_zero, List.set_cons_succ, List.getElem_toArray, List.getElem_cons_succ, List.getElem_cons_zero]
              refine wpAnyH_ready (rs := [7]) (by kernel_rfl) (by simp) (AllReadyH.cons rfl (fun K hK => ?_) (AllReadyH.nil))
              try simp only [List.getElem_toArray, List.getElem_cons_succ, List.getElem_cons_zero]
              go_simp
              refine hK.out _ _ (HS5.out) (fun hHeld => ?_)
              clear hK K
              try simp only [Act.put, List.setIfInBounds_toArray, List.set_cons_zero, List.set_cons_succ, List.getElem_toArray, List.getElem_cons_succ, List.getElem_cons_zero]
              have hh := FIN m3 m2 m4 m1 m0 (by have e0 := HM0.out; have e1 := HM1.out; have e2 := HM2.out; have e3 := HM3.out; have e4 := HM4.out; exact ⟨by omega, by omega⟩)
              apply hh
            · try simp only [List.getElem_toArray, List.getElem_cons_succ, List.getElem_cons_zero]
              go_simp
              refine hK.out _ _ (HS4.out) (fun hHeld => ?_)
              clear hK K
              try simp only [Act.put, List.setIfInBounds_toArray, List.set_cons_zero, List.set_cons_succ, List.getElem_toArray, List.getElem_cons_succ, List.getElem_cons_zero]
              refine wpAnyH_ready (rs := [5]) (by kernel_rfl) (by simp) (AllReadyH.cons rfl (fun K hK => ?_) (AllReadyH.nil))
              try simp only [List.getElem_toArray, List.getElem_cons_succ, List.getElem_cons_zero]
              go_simp
              refine hK.out _ _ (HS5.out) (fun hHeld => ?_)
              clear hK K
              try simp only [Act.put, List.setIfInBounds_toArray, List.set_cons_zero, List.set_cons_succ, List.getElem_toArray, List.getElem_cons_succ, List.getElem_cons_zero]
              have hh := FIN m4 m2 m3 m1 m0 (by have e0 := HM0.out; have e1 := HM1.out; have e2 := HM2.out; have e3 := HM3.out; have e4 := HM4.out; exact ⟨by omega, by omega⟩)
              apply hh
          · try simp only [List.getElem_toArray, List.getElem_cons_succ, List.getElem_cons_zero]
            go_simp
            refine hK.out _ _ (HS3.out) (fun hHeld => ?_)
            clear hK K
            try simp only [Act.put, List.setIfInBounds_toArray, List.set_cons_zero, List.set_cons_succ, List.getElem_toArray, List.getElem_cons_succ, List.getElem_cons_zero]
            refine wpAnyH_ready (rs := [5, 6]) (by kernel_rfl) (by simp) (AllReadyH.cons rfl (fun K hK => ?_) (AllReadyH.cons rfl (fun K hK => ?_) (AllReadyH.nil)))
            · try simp only [List.getElem_toArray, List.getElem_cons_succ, List.getElem_cons_zero]
              go_simp
              refine hK.out _ _ (HS4.out) (fun hHeld => ?_)
              clear hK K
              try simp only [Act.put, List.setIfInBounds_toArray, List.set_cons_zero, List.set_cons_succ, List.getElem_toArray, List.getElem_cons_succ, List.getElem_cons_zero]
              refine wpAnyH_ready (rs := [6]) (by kernel_rfl) (by simp) (AllReadyH.cons rfl (fun K hK => ?_) (AllReadyH.nil))
              try simp only [List.getElem_toArray, List.getElem_cons_succ, List.getElem_cons_zero]
              go_simp
              refine hK.out _ _ (HS5.out) (fun hHeld => ?_)
              clear hK K
              try simp only [Act.put, List.setIfInBounds_toArray, List.set_cons_zero, List.set_cons_succ, List.getElem_toArray, List.getElem_cons_succ, List.getElem_cons_zero]
              have hh := FIN m3 m4 m2 m1 m0 (by have e0 := HM0.out; have e1 := HM1.out; have e2 := HM2.out; have e3 := HM3.out; have e4 := HM4.out; exact ⟨by omega, by omega⟩)
              apply hh
            · try simp only [List.getElem_toArray, List.getElem_cons_succ, List.getElem_cons_zero]
              go_simp
              refine hK.out _ _ (HS4.out) (fun hHeld => ?_)
              clear hK K
              try simp only [Act.put, List.setIfInBounds_toArray, List.set_cons_zero, List.set_cons_succ, List.getElem_toArray, List.getElem_cons_succ, List.getElem_cons_zero]
              refine wpAnyH_ready (rs := [5]) (by kernel_rfl) (by simp) (AllReadyH.cons rfl (fun K hK => ?_) (AllReadyH.nil))
              try simp only [List.getElem_toArray, List.getElem_cons_succ, List.getElem_cons_zero]
              go_simp
              refine hK.out _ _ (HS5.out) (fun hHeld => ?_)
              clear hK K
              try simp only [Act.put, List.setIfInBounds_toArray, List.set_cons_zero, List.set_cons_succ, List.getElem_toArray, List.getElem_cons_succ, List.getElem_cons_zero]
              have hh := FIN m4 m3 m2 m1 m0 (by have e0 := HM0.out; have e1 := HM1.out; have e2 := HM2.out; have e3 := HM3.out; have e4 := HM4.out; exact ⟨by omega, by omega⟩)
              apply hh
    · intro q0 q1 q2 q3 q4 hq
      clear HM0 HM1 HM2 HM3 HM4 hn0 hn1 hn2 hn3 hn4 hA1 hA2 hA3 hA4 hA5
      have L := leafR (qty := qty) (am := am) (dy := dy) q0 q1 q2 q3 q4 HZ.out HS5.out hbt3 hq.1 hq.2
      have hHeld : A5.heap[bt]? = some (.cells (tcq qty am dy) 23 (0, 0)) := HS5.out
      refine wpAnyH_ready (rs := [10]) (by kernel_rfl) (by simp) (AllReadyH.cons rfl (fun K hK => ?_) (AllReadyH.nil))
      refine step_store_row rfl 23 (.tmp 16) (.tmp 75) rfl q0 (tcq qty am dy) (by rfl) (by rfl) 23 tz L.z0 size_term8 rfl (tcq_one qty am dy) ?_
      refine hK.out _ _ (L.t0) (fun hHeld => ?_)
      clear hK K
      try simp only [Act.put, List.getElem_toArray, List.getElem_cons_succ, List.getElem_cons_zero]
      refine wpAnyH_ready (rs := [11]) (by kernel_rfl) (by simp) (AllReadyH.cons rfl (fun K hK => ?_) (AllReadyH.nil))
      refine step_store_row rfl 23 (.tmp 17) (.tmp 76) rfl q1 (tcq qty am dy) (by rfl) (by rfl) 23 tz L.z1 size_term8 rfl (tcq_one qty am dy) ?_
      refine hK.out _ _ (L.t1) (fun hHeld => ?_)
      clear hK K
      try simp only [Act.put, List.getElem_toArray, List.getElem_cons_succ, List.getElem_cons_zero]
      refine wpAnyH_ready (rs := [12]) (by kernel_rfl) (by simp) (AllReadyH.cons rfl (fun K hK => ?_) (AllReadyH.nil))
      refine step_store_row rfl 23 (.tmp 18) (.tmp 77) rfl q2 (tcq qty am dy) (by rfl) (by rfl) 23 tz L.z2 size_term8 rfl (tcq_one qty am dy) ?_
      refine hK.out _ _ (L.t2) (fun hHeld => ?_)
      clear hK K
      try simp only [Act.put, List.getElem_toArray, List.getElem_cons_succ, List.getElem_cons_zero]
      refine wpAnyH_ready (rs := [13]) (by kernel_rfl) (by simp) (AllReadyH.cons rfl (fun K hK => ?_) (AllReadyH.nil))
      refine step_store_row rfl 23 (.tmp 19) (.tmp 78) rfl q3 (tcq qty am dy) (by rfl) (by rfl) 23 tz L.z3 size_term8 rfl (tcq_one qty am dy) ?_
      refine hK.out _ _ (L.t3) (fun hHeld => ?_)
      clear hK K
      try simp only [Act.put, List.getElem_toArray, List.getElem_cons_succ, List.getElem_cons_zero]
      refine wpAnyH_ready (rs := [14]) (by kernel_rfl) (by simp) (AllReadyH.cons rfl (fun K hK => ?_) (AllReadyH.nil))
      refine step_store_row rfl 23 (.tmp 20) (.tmp 79) rfl q4 (tcq qty am dy) (by rfl) (by rfl) 23 tz L.z4 size_term8 rfl (tcq_one qty am dy) ?_
      refine hK.out _ _ (L.t4) (fun hHeld => ?_)
      clear hK K
      try simp only [Act.put, List.getElem_toArray, List.getElem_cons_succ, List.getElem_cons_zero]
      refine wpAnyH_done (by kernel_rfl) ?_ _
      have LF := Lib.hid (L.fin w3 HB5.out)
      clear L
      go_wp2
      go_meet
      exact ⟨q0, q1, q2, q3, q4, rfl, rfl, rfl, rfl, rfl, LF.out⟩
  case rest =>
  obtain ⟨q0, q1, q2, q3, q4, rfl, rfl, rfl, rfl, rfl, HF⟩ := hcut
  obtain ⟨⟨d01, d02, d03, d04, d12, d13, d14, d23, d24, d34⟩, hqn, h00, h10, h20, h30, h40, hbw⟩ := HF.out
  have HBW : Hid (Below w.heap.size w wc) := HB3.out.trans (hbw.mono (by rw [← HN.out]; exact HB3.out.size))
  have HKW : Hid (RefAt r sw3 wc) := HK3.out.below (by rw [HN.out]; exact hbw)
  have hwn : w.heap.size ≤ n := by rw [← HN.out]; exact HB3.out.size
  have hnw : n ≤ w3.heap.size := by rw [hn]; exact Nat.le_refl _
  obtain ⟨hq0, hq1, hq2, hq3, hq4⟩ := hqn
  clear hbw hn
  have c0 : wc.cell? ⟨q0, 1, none⟩ = some (.string ⟨#[80, 65]⟩) := by rw [Lib.cell_of_heap h00]; rfl
  have f0 : wc.frozen? ⟨q0, 1, none⟩ = false := Lib.frozen_of_heap h00 1
  go_upto_region 20 with (fail)
  clear c0 f0
  obtain ⟨X1, hX1⟩ : ∃ W, wc.setCell ⟨q0, 1, none⟩ (.string ⟨#[81, 65]⟩) = W := ⟨_, rfl⟩
  have h01 : X1.heap[q0]? = some (.cells #[.string ⟨#[80]⟩, .string ⟨#[81, 65]⟩, .string ⟨#[80, 66]⟩, .string ⟨#[81]⟩, .bool true, .string ⟨#[89]⟩, .string ⟨#[69, 85, 82]⟩, .string ⟨#[]⟩, .int .i64 qty, .int .i64 am, .int .i64 dy, .int .i64 0] 23 (0, 0)) := by rw [← hX1]; exact Blk.set_ (show Blk _ q0 23 _ from h00) 1 (.string ⟨#[81, 65]⟩)
  have h11 : X1.heap[q1]? = some (.cells #[.string ⟨#[80]⟩, .string ⟨#[80, 65]⟩, .string ⟨#[80, 66]⟩, .string ⟨#[81]⟩, .bool true, .string ⟨#[89]⟩, .string ⟨#[69, 85, 82]⟩, .string ⟨#[]⟩, .int .i64 qty, .int .i64 am, .int .i64 dy, .int .i64 0] 23 (0, 0)) := by rw [← hX1]; exact (Below.heap_setCell _ ⟨q0, 1, none⟩ _ _ (show q1 ≠ q0 by omega)).trans h10
  have h21 : X1.heap[q2]? = some (.cells #[.string ⟨#[80]⟩, .string ⟨#[80, 65]⟩, .string ⟨#[80, 66]⟩, .string ⟨#[81]⟩, .bool true, .string ⟨#[89]⟩, .string ⟨#[69, 85, 82]⟩, .string ⟨#[]⟩, .int .i64 qty, .int .i64 am, .int .i64 dy, .int .i64 0] 23 (0, 0)) := by rw [← hX1]; exact (Below.heap_setCell _ ⟨q0, 1, none⟩ _ _ (show q2 ≠ q0 by omega)).trans h20
  have h31 : X1.heap[q3]? = some (.cells #[.string ⟨#[80]⟩, .string ⟨#[80, 65]⟩, .string ⟨#[80, 66]⟩, .string ⟨#[81]⟩, .bool true, .string ⟨#[89]⟩, .string ⟨#[69, 85, 82]⟩, .string ⟨#[]⟩, .int .i64 qty, .int .i64 am, .int .i64 dy, .int .i64 0] 23 (0, 0)) := by rw [← hX1]; exact (Below.heap_setCell _ ⟨q0, 1, none⟩ _ _ (show q3 ≠ q0 by omega)).trans h30
  have h41 : X1.heap[q4]? = some (.cells #[.string ⟨#[80]⟩, .string ⟨#[80, 65]⟩, .string ⟨#[80, 66]⟩, .string ⟨#[81]⟩, .bool true, .string ⟨#[89]⟩, .string ⟨#[69, 85, 82]⟩, .string ⟨#[]⟩, .int .i64 qty, .int .i64 am, .int .i64 dy, .int .i64 0] 23 (0, 0)) := by rw [← hX1]; exact (Below.heap_setCell _ ⟨q0, 1, none⟩ _ _ (show q4 ≠ q0 by omega)).trans h40
  have HM1 : Hid (Mv [q0] [q0] wc X1) := by show Mv _ _ _ _; rw [← hX1]; exact mv_set q0 1 _ _
  have HBX1 : Hid (Below w.heap.size w X1) := HBW.out.trans (HM1.out.below (fun q hq => by simp at hq; omega) HBW.out.size)
  have HKX1 : Hid (RefAt r sw3 X1) := HKW.out.aside HM1.out h00 (by decide) (by decide)
  rw [hX1]
  clear hX1
  clear h00 h10 h20 h30 h40
  have c1 : X1.cell? ⟨q1, 3, none⟩ = some (.string ⟨#[81]⟩) := by rw [Lib.cell_of_heap h11]; rfl
  have f1 : X1.frozen? ⟨q1, 3, none⟩ = false := Lib.frozen_of_heap h11 3
  go_upto_region 21 with (fail)
  clear c1 f1
  obtain ⟨X2, hX2⟩ : ∃ W, X1.setCell ⟨q1, 3, none⟩ (.string ⟨#[80]⟩) = W := ⟨_, rfl⟩
  have h02 : X2.heap[q0]? = some (.cells #[.string ⟨#[80]⟩, .string ⟨#[81, 65]⟩, .string ⟨#[80, 66]⟩, .string ⟨#[81]⟩, .bool true, .string ⟨#[89]⟩, .string ⟨#[69, 85, 82]⟩, .string ⟨#[]⟩, .int .i64 qty, .int .i64 am, .int .i64 dy, .int .i64 0] 23 (0, 0)) := by rw [← hX2]; exact (Below.heap_setCell _ ⟨q1, 3, none⟩ _ _ (show q0 ≠ q1 by omega)).trans h01
  have h12 : X2.heap[q1]? = some (.cells #[.string ⟨#[80]⟩, .string ⟨#[80, 65]⟩, .string ⟨#[80, 66]⟩, .string ⟨#[80]⟩, .bool true, .string ⟨#[89]⟩, .string ⟨#[69, 85, 82]⟩, .string ⟨#[]⟩, .int .i64 qty, .int .i64 am, .int .i64 dy, .int .i64 0] 23 (0, 0)) := by rw [← hX2]; exact Blk.set_ (show Blk _ q1 23 _ from h11) 3 (.string ⟨#[80]⟩)
  have h22 : X2.heap[q2]? = some (.cells #[.string ⟨#[80]⟩, .string ⟨#[80, 65]⟩, .string ⟨#[80, 66]⟩, .string ⟨#[81]⟩, .bool true, .string ⟨#[89]⟩, .string ⟨#[69, 85, 82]⟩, .string ⟨#[]⟩, .int .i64 qty, .int .i64 am, .int .i64 dy, .int .i64 0] 23 (0, 0)) := by rw [← hX2]; exact (Below.heap_setCell _ ⟨q1, 3, none⟩ _ _ (show q2 ≠ q1 by omega)).trans h21
  have h32 : X2.heap[q3]? = some (.cells #[.string ⟨#[80]⟩, .string ⟨#[80, 65]⟩, .string ⟨#[80, 66]⟩, .string ⟨#[81]⟩, .bool true, .string ⟨#[89]⟩, .string ⟨#[69, 85, 82]⟩, .string ⟨#[]⟩, .int .i64 qty, .int .i64 am, .int .i64 dy, .int .i64 0] 23 (0, 0)) := by rw [← hX2]; exact (Below.heap_setCell _ ⟨q1, 3, none⟩ _ _ (show q3 ≠ q1 by omega)).trans h31
  have h42 : X2.heap[q4]? = some (.cells #[.string ⟨#[80]⟩, .string ⟨#[80, 65]⟩, .string ⟨#[80, 66]⟩, .string ⟨#[81]⟩, .bool true, .string ⟨#[89]⟩, .string ⟨#[69, 85, 82]⟩, .string ⟨#[]⟩, .int .i64 qty, .int .i64 am, .int .i64 dy, .int .i64 0] 23 (0, 0)) := by rw [← hX2]; exact (Below.heap_setCell _ ⟨q1, 3, none⟩ _ _ (show q4 ≠ q1 by omega)).trans h41
  have HM2 : Hid (Mv [q1] [q1] X1 X2) := by show Mv _ _ _ _; rw [← hX2]; exact mv_set q1 3 _ _
  have HBX2 : Hid (Below w.heap.size w X2) := HBX1.out.trans (HM2.out.below (fun q hq => by simp at hq; omega) HBX1.out.size)
  have HKX2 : Hid (RefAt r sw3 X2) := HKX1.out.aside HM2.out h11 (by decide) (by decide)
  rw [hX2]
  clear hX2
  clear h01 h11 h21 h31 h41
  have c2 : X2.cell? ⟨q2, 5, none⟩ = some (.string ⟨#[89]⟩) := by rw [Lib.cell_of_heap h22]; rfl
  have f2 : X2.frozen? ⟨q2, 5, none⟩ = false := Lib.frozen_of_heap h22 5
  go_upto_region 22 with (fail)
  clear c2 f2
  obtain ⟨X3, hX3⟩ : ∃ W, X2.setCell ⟨q2, 5, none⟩ (.string ⟨#[69, 85, 82]⟩) = W := ⟨_, rfl⟩
  have h03 : X3.heap[q0]? = some (.cells #[.string ⟨#[80]⟩, .string ⟨#[81, 65]⟩, .string ⟨#[80, 66]⟩, .string ⟨#[81]⟩, .bool true, .string ⟨#[89]⟩, .string ⟨#[69, 85, 82]⟩, .string ⟨#[]⟩, .int .i64 qty, .int .i64 am, .int .i64 dy, .int .i64 0] 23 (0, 0)) := by rw [← hX3]; exact (Below.heap_setCell _ ⟨q2, 5, none⟩ _ _ (show q0 ≠ q2 by omega)).trans h02
  have h13 : X3.heap[q1]? = some (.cells #[.string ⟨#[80]⟩, .string ⟨#[80, 65]⟩, .string ⟨#[80, 66]⟩, .string ⟨#[80]⟩, .bool true, .string ⟨#[89]⟩, .string ⟨#[69, 85, 82]⟩, .string ⟨#[]⟩, .int .i64 qty, .int .i64 am, .int .i64 dy, .int .i64 0] 23 (0, 0)) := by rw [← hX3]; exact (Below.heap_setCell _ ⟨q2, 5, none⟩ _ _ (show q1 ≠ q2 by omega)).trans h12
  have h23 : X3.heap[q2]? = some (.cells #[.string ⟨#[80]⟩, .string ⟨#[80, 65]⟩, .string ⟨#[80, 66]⟩, .string ⟨#[81]⟩, .bool true, .string ⟨#[69, 85, 82]⟩, .string ⟨#[69, 85, 82]⟩, .string ⟨#[]⟩, .int .i64 qty, .int .i64 am, .int .i64 dy, .int .i64 0] 23 (0, 0)) := by rw [← hX3]; exact Blk.set_ (show Blk _ q2 23 _ from h22) 5 (.string ⟨#[69, 85, 82]⟩)
  have h33 : X3.heap[q3]? = some (.cells #[.string ⟨#[80]⟩, .string ⟨#[80, 65]⟩, .string ⟨#[80, 66]⟩, .string ⟨#[81]⟩, .bool true, .string ⟨#[89]⟩, .string ⟨#[69, 85, 82]⟩, .string ⟨#[]⟩, .int .i64 qty, .int .i64 am, .int .i64 dy, .int .i64 0] 23 (0, 0)) := by rw [← hX3]; exact (Below.heap_setCell _ ⟨q2, 5, none⟩ _ _ (show q3 ≠ q2 by omega)).trans h32
  have h43 : X3.heap[q4]? = some (.cells #[.string ⟨#[80]⟩, .string ⟨#[80, 65]⟩, .string ⟨#[80, 66]⟩, .string ⟨#[81]⟩, .bool true, .string ⟨#[89]⟩, .string ⟨#[69, 85, 82]⟩, .string ⟨#[]⟩, .int .i64 qty, .int .i64 am, .int .i64 dy, .int .i64 0] 23 (0, 0)) := by rw [← hX3]; exact (Below.heap_setCell _ ⟨q2, 5, none⟩ _ _ (show q4 ≠ q2 by omega)).trans h42
  have HM3 : Hid (Mv [q2] [q2] X2 X3) := by show Mv _ _ _ _; rw [← hX3]; exact mv_set q2 5 _ _
  have HBX3 : Hid (Below w.heap.size w X3) := HBX2.out.trans (HM3.out.below (fun q hq => by simp at hq; omega) HBX2.out.size)
  have HKX3 : Hid (RefAt r sw3 X3) := HKX2.out.aside HM3.out h22 (by decide) (by decide)
  rw [hX3]
  clear hX3
  clear h02 h12 h22 h32 h42
  have c3 : X3.cell? ⟨q3, 6, none⟩ = some (.string ⟨#[69, 85, 82]⟩) := by rw [Lib.cell_of_heap h33]; rfl
  have f3 : X3.frozen? ⟨q3, 6, none⟩ = false := Lib.frozen_of_heap h33 6
  go_upto_region 23 with (fail)
  clear c3 f3
  obtain ⟨X4, hX4⟩ : ∃ W, X3.setCell ⟨q3, 6, none⟩ (.string ⟨#[71, 66, 80]⟩) = W := ⟨_, rfl⟩
  have h04 : X4.heap[q0]? = some (.cells #[.string ⟨#[80]⟩, .string ⟨#[81, 65]⟩, .string ⟨#[80, 66]⟩, .string ⟨#[81]⟩, .bool true, .string ⟨#[89]⟩, .string ⟨#[69, 85, 82]⟩, .string ⟨#[]⟩, .int .i64 qty, .int .i64 am, .int .i64 dy, .int .i64 0] 23 (0, 0)) := by rw [← hX4]; exact (Below.heap_setCell _ ⟨q3, 6, none⟩ _ _ (show q0 ≠ q3 by omega)).trans h03
  have h14 : X4.heap[q1]? = some (.cells #[.string ⟨#[80]⟩, .string ⟨#[80, 65]⟩, .string ⟨#[80, 66]⟩, .string ⟨#[80]⟩, .bool true, .string ⟨#[89]⟩, .string ⟨#[69, 85, 82]⟩, .string ⟨#[]⟩, .int .i64 qty, .int .i64 am, .int .i64 dy, .int .i64 0] 23 (0, 0)) := by rw [← hX4]; exact (Below.heap_setCell _ ⟨q3, 6, none⟩ _ _ (show q1 ≠ q3 by omega)).trans h13
  have h24 : X4.heap[q2]? = some (.cells #[.string ⟨#[80]⟩, .string ⟨#[80, 65]⟩, .string ⟨#[80, 66]⟩, .string ⟨#[81]⟩, .bool true, .string ⟨#[69, 85, 82]⟩, .string ⟨#[69, 85, 82]⟩, .string ⟨#[]⟩, .int .i64 qty, .int .i64 am, .int .i64 dy, .int .i64 0] 23 (0, 0)) := by rw [← hX4]; exact (Below.heap_setCell _ ⟨q3, 6, none⟩ _ _ (show q2 ≠ q3 by omega)).trans h23
  have h34 : X4.heap[q3]? = some (.cells #[.string ⟨#[80]⟩, .string ⟨#[80, 65]⟩, .string ⟨#[80, 66]⟩, .string ⟨#[81]⟩, .bool true, .string ⟨#[89]⟩, .string ⟨#[71, 66, 80]⟩, .string ⟨#[]⟩, .int .i64 qty, .int .i64 am, .int .i64 dy, .int .i64 0] 23 (0, 0)) := by rw [← hX4]; exact Blk.set_ (show Blk _ q3 23 _ from h33) 6 (.string ⟨#[71, 66, 80]⟩)
  have h44 : X4.heap[q4]? = some (.cells #[.string ⟨#[80]⟩, .string ⟨#[80, 65]⟩, .string ⟨#[80, 66]⟩, .string ⟨#[81]⟩, .bool true, .string ⟨#[89]⟩, .string ⟨#[69, 85, 82]⟩, .string ⟨#[]⟩, .int .i64 qty, .int .i64 am, .int .i64 dy, .int .i64 0] 23 (0, 0)) := by rw [← hX4]; exact (Below.heap_setCell _ ⟨q3, 6, none⟩ _ _ (show q4 ≠ q3 by omega)).trans h43
  have HM4 : Hid (Mv [q3] [q3] X3 X4) := by show Mv _ _ _ _; rw [← hX4]; exact mv_set q3 6 _ _
  have HBX4 : Hid (Below w.heap.size w X4) := HBX3.out.trans (HM4.out.below (fun q hq => by simp at hq; omega) HBX3.out.size)
  have HKX4 : Hid (RefAt r sw3 X4) := HKX3.out.aside HM4.out h33 (by decide) (by decide)
  rw [hX4]
  clear hX4
  clear h03 h13 h23 h33 h43
  have c4 : X4.cell? ⟨q4, 3, none⟩ = some (.string ⟨#[81]⟩) := by rw [Lib.cell_of_heap h44]; rfl
  have f4 : X4.frozen? ⟨q4, 3, none⟩ = false := Lib.frozen_of_heap h44 3
  go_wp2_with fail
  clear c4 f4
  obtain ⟨X5, hX5⟩ : ∃ W, X4.setCell ⟨q4, 3, none⟩ (.string ⟨#[66, 65, 78, 75]⟩) = W := ⟨_, rfl⟩
  have h05 : X5.heap[q0]? = some (.cells #[.string ⟨#[80]⟩, .string ⟨#[81, 65]⟩, .string ⟨#[80, 66]⟩, .string ⟨#[81]⟩, .bool true, .string ⟨#[89]⟩, .string ⟨#[69, 85, 82]⟩, .string ⟨#[]⟩, .int .i64 qty, .int .i64 am, .int .i64 dy, .int .i64 0] 23 (0, 0)) := by rw [← hX5]; exact (Below.heap_setCell _ ⟨q4, 3, none⟩ _ _ (show q0 ≠ q4 by omega)).trans h04
  have h15 : X5.heap[q1]? = some (.cells #[.string ⟨#[80]⟩, .string ⟨#[80, 65]⟩, .string ⟨#[80, 66]⟩, .string ⟨#[80]⟩, .bool true, .string ⟨#[89]⟩, .string ⟨#[69, 85, 82]⟩, .string ⟨#[]⟩, .int .i64 qty, .int .i64 am, .int .i64 dy, .int .i64 0] 23 (0, 0)) := by rw [← hX5]; exact (Below.heap_setCell _ ⟨q4, 3, none⟩ _ _ (show q1 ≠ q4 by omega)).trans h14
  have h25 : X5.heap[q2]? = some (.cells #[.string ⟨#[80]⟩, .string ⟨#[80, 65]⟩, .string ⟨#[80, 66]⟩, .string ⟨#[81]⟩, .bool true, .string ⟨#[69, 85, 82]⟩, .string ⟨#[69, 85, 82]⟩, .string ⟨#[]⟩, .int .i64 qty, .int .i64 am, .int .i64 dy, .int .i64 0] 23 (0, 0)) := by rw [← hX5]; exact (Below.heap_setCell _ ⟨q4, 3, none⟩ _ _ (show q2 ≠ q4 by omega)).trans h24
  have h35 : X5.heap[q3]? = some (.cells #[.string ⟨#[80]⟩, .string ⟨#[80, 65]⟩, .string ⟨#[80, 66]⟩, .string ⟨#[81]⟩, .bool true, .string ⟨#[89]⟩, .string ⟨#[71, 66, 80]⟩, .string ⟨#[]⟩, .int .i64 qty, .int .i64 am, .int .i64 dy, .int .i64 0] 23 (0, 0)) := by rw [← hX5]; exact (Below.heap_setCell _ ⟨q4, 3, none⟩ _ _ (show q3 ≠ q4 by omega)).trans h34
  have h45 : X5.heap[q4]? = some (.cells #[.string ⟨#[80]⟩, .string ⟨#[80, 65]⟩, .string ⟨#[80, 66]⟩, .string ⟨#[66, 65, 78, 75]⟩, .bool true, .string ⟨#[89]⟩, .string ⟨#[69, 85, 82]⟩, .string ⟨#[]⟩, .int .i64 qty, .int .i64 am, .int .i64 dy, .int .i64 0] 23 (0, 0)) := by rw [← hX5]; exact Blk.set_ (show Blk _ q4 23 _ from h44) 3 (.string ⟨#[66, 65, 78, 75]⟩)
  have HM5 : Hid (Mv [q4] [q4] X4 X5) := by show Mv _ _ _ _; rw [← hX5]; exact mv_set q4 3 _ _
  have HBX5 : Hid (Below w.heap.size w X5) := HBX4.out.trans (HM5.out.below (fun q hq => by simp at hq; omega) HBX4.out.size)
  have HKX5 : Hid (RefAt r sw3 X5) := HKX4.out.aside HM5.out h44 (by decide) (by decide)
  rw [hX5]
  clear hX5
  clear h04 h14 h24 h34 h44
  have HH0 := Lib.hid h05; have HH1 := Lib.hid h15; have HH2 := Lib.hid h25; have HH3 := Lib.hid h35; have HH4 := Lib.hid h45
  clear h05 h15 h25 h35 h45
  refine (alive12_any _).mono ?_
  rintro e U0 ⟨rfl, hu0⟩
  have HU0 := Lib.hid hu0
  clear hu0
  have g0 : Hid (U0.heap[q0]? = some (.cells #[.string ⟨#[80]⟩, .string ⟨#[81, 65]⟩, .string ⟨#[80, 66]⟩, .string ⟨#[81]⟩, .bool true, .string ⟨#[89]⟩, .string ⟨#[69, 85, 82]⟩, .string ⟨#[]⟩, .int .i64 qty, .int .i64 am, .int .i64 dy, .int .i64 0] 23 (0, 0))) := (HU0.out.block q0 (Blk.lt (t := 23) HH0.out)).trans HH0.out
  have CK0 : Hid (Calls Try.prog 34 #[.pointer (some ⟨r, 0, none⟩), .agg #[.string ⟨#[80]⟩, .string ⟨#[81, 65]⟩, .string ⟨#[80, 66]⟩, .string ⟨#[81]⟩, .bool true, .string ⟨#[89]⟩, .string ⟨#[69, 85, 82]⟩, .string ⟨#[]⟩, .int .i64 qty, .int .i64 am, .int .i64 dy, .int .i64 0], .int .i64 0] U0 fun e w' => e = .returned (.int .i64 22) ∧ Below U0.heap.size U0 w') := by
    have h := check_any r sw3 sw3_ok sw_ne sw_unit (tRa qty am dy) (fits_Ra HQ.out HM.out HD.out) 0 U0 (HKX5.out.below HU0.out)
    rw [rp_a] at h
    exact h
  have y0 : U0.cell? ⟨q0, 0, none⟩ = some (.string ⟨#[80]⟩) := by rw [Lib.cell_of_heap g0.out]; rfl
  have y1 : U0.cell? ⟨q0, 1, none⟩ = some (.string ⟨#[81, 65]⟩) := by rw [Lib.cell_of_heap g0.out]; rfl
  have y2 : U0.cell? ⟨q0, 2, none⟩ = some (.string ⟨#[80, 66]⟩) := by rw [Lib.cell_of_heap g0.out]; rfl
  have y3 : U0.cell? ⟨q0, 3, none⟩ = some (.string ⟨#[81]⟩) := by rw [Lib.cell_of_heap g0.out]; rfl
  have y4 : U0.cell? ⟨q0, 4, none⟩ = some (.bool true) := by rw [Lib.cell_of_heap g0.out]; rfl
  have y5 : U0.cell? ⟨q0, 5, none⟩ = some (.string ⟨#[89]⟩) := by rw [Lib.cell_of_heap g0.out]; rfl
  have y6 : U0.cell? ⟨q0, 6, none⟩ = some (.string ⟨#[69, 85, 82]⟩) := by rw [Lib.cell_of_heap g0.out]; rfl
  have y7 : U0.cell? ⟨q0, 7, none⟩ = some (.string ⟨#[]⟩) := by rw [Lib.cell_of_heap g0.out]; rfl
  have y8 : U0.cell? ⟨q0, 8, none⟩ = some (.int .i64 qty) := by rw [Lib.cell_of_heap g0.out]; rfl
  have y9 : U0.cell? ⟨q0, 9, none⟩ = some (.int .i64 am) := by rw [Lib.cell_of_heap g0.out]; rfl
  have y10 : U0.cell? ⟨q0, 10, none⟩ = some (.int .i64 dy) := by rw [Lib.cell_of_heap g0.out]; rfl
  have y11 : U0.cell? ⟨q0, 11, none⟩ = some (.int .i64 0) := by rw [Lib.cell_of_heap g0.out]; rfl
  go_wp2_with fail
  clear y0 y1 y2 y3 y4 y5 y6 y7 y8 y9 y10 y11
  refine CK0.out.mono ?_
  rintro e U1 ⟨rfl, hu1⟩
  have HU1 : Hid (Below X5.heap.size X5 U1) := HU0.out.trans (hu1.mono HU0.out.size)
  clear hu1 CK0 g0
  have g1 : Hid (U1.heap[q1]? = some (.cells #[.string ⟨#[80]⟩, .string ⟨#[80, 65]⟩, .string ⟨#[80, 66]⟩, .string ⟨#[80]⟩, .bool true, .string ⟨#[89]⟩, .string ⟨#[69, 85, 82]⟩, .string ⟨#[]⟩, .int .i64 qty, .int .i64 am, .int .i64 dy, .int .i64 0] 23 (0, 0))) := (HU1.out.block q1 (Blk.lt (t := 23) HH1.out)).trans HH1.out
  have CK1 : Hid (Calls Try.prog 34 #[.pointer (some ⟨r, 0, none⟩), .agg #[.string ⟨#[80]⟩, .string ⟨#[80, 65]⟩, .string ⟨#[80, 66]⟩, .string ⟨#[80]⟩, .bool true, .string ⟨#[89]⟩, .string ⟨#[69, 85, 82]⟩, .string ⟨#[]⟩, .int .i64 qty, .int .i64 am, .int .i64 dy, .int .i64 0], .int .i64 0] U1 fun e w' => e = .returned (.int .i64 1) ∧ Below U1.heap.size U1 w') := by
    have h := check_any r sw3 sw3_ok sw_ne sw_unit (tRb qty am dy) (fits_Rb HQ.out HM.out HD.out) 0 U1 (HKX5.out.below HU1.out)
    rw [rp_b] at h
    exact h
  have y0 : U1.cell? ⟨q1, 0, none⟩ = some (.string ⟨#[80]⟩) := by rw [Lib.cell_of_heap g1.out]; rfl
  have y1 : U1.cell? ⟨q1, 1, none⟩ = some (.string ⟨#[80, 65]⟩) := by rw [Lib.cell_of_heap g1.out]; rfl
  have y2 : U1.cell? ⟨q1, 2, none⟩ = some (.string ⟨#[80, 66]⟩) := by rw [Lib.cell_of_heap g1.out]; rfl
  have y3 : U1.cell? ⟨q1, 3, none⟩ = some (.string ⟨#[80]⟩) := by rw [Lib.cell_of_heap g1.out]; rfl
  have y4 : U1.cell? ⟨q1, 4, none⟩ = some (.bool true) := by rw [Lib.cell_of_heap g1.out]; rfl
  have y5 : U1.cell? ⟨q1, 5, none⟩ = some (.string ⟨#[89]⟩) := by rw [Lib.cell_of_heap g1.out]; rfl
  have y6 : U1.cell? ⟨q1, 6, none⟩ = some (.string ⟨#[69, 85, 82]⟩) := by rw [Lib.cell_of_heap g1.out]; rfl
  have y7 : U1.cell? ⟨q1, 7, none⟩ = some (.string ⟨#[]⟩) := by rw [Lib.cell_of_heap g1.out]; rfl
  have y8 : U1.cell? ⟨q1, 8, none⟩ = some (.int .i64 qty) := by rw [Lib.cell_of_heap g1.out]; rfl
  have y9 : U1.cell? ⟨q1, 9, none⟩ = some (.int .i64 am) := by rw [Lib.cell_of_heap g1.out]; rfl
  have y10 : U1.cell? ⟨q1, 10, none⟩ = some (.int .i64 dy) := by rw [Lib.cell_of_heap g1.out]; rfl
  have y11 : U1.cell? ⟨q1, 11, none⟩ = some (.int .i64 0) := by rw [Lib.cell_of_heap g1.out]; rfl
  go_wp2_with fail
  clear y0 y1 y2 y3 y4 y5 y6 y7 y8 y9 y10 y11
  refine CK1.out.mono ?_
  rintro e U2 ⟨rfl, hu2⟩
  have HU2 : Hid (Below X5.heap.size X5 U2) := HU1.out.trans (hu2.mono HU1.out.size)
  clear hu2 CK1 g1
  have g2 : Hid (U2.heap[q2]? = some (.cells #[.string ⟨#[80]⟩, .string ⟨#[80, 65]⟩, .string ⟨#[80, 66]⟩, .string ⟨#[81]⟩, .bool true, .string ⟨#[69, 85, 82]⟩, .string ⟨#[69, 85, 82]⟩, .string ⟨#[]⟩, .int .i64 qty, .int .i64 am, .int .i64 dy, .int .i64 0] 23 (0, 0))) := (HU2.out.block q2 (Blk.lt (t := 23) HH2.out)).trans HH2.out
  have CK2 : Hid (Calls Try.prog 34 #[.pointer (some ⟨r, 0, none⟩), .agg #[.string ⟨#[80]⟩, .string ⟨#[80, 65]⟩, .string ⟨#[80, 66]⟩, .string ⟨#[81]⟩, .bool true, .string ⟨#[69, 85, 82]⟩, .string ⟨#[69, 85, 82]⟩, .string ⟨#[]⟩, .int .i64 qty, .int .i64 am, .int .i64 dy, .int .i64 0], .int .i64 0] U2 fun e w' => e = .returned (.int .i64 1) ∧ Below U2.heap.size U2 w') := by
    have h := check_any r sw3 sw3_ok sw_ne sw_unit (tRc qty am dy) (fits_Rc HQ.out HM.out HD.out) 0 U2 (HKX5.out.below HU2.out)
    rw [rp_c] at h
    exact h
  have y0 : U2.cell? ⟨q2, 0, none⟩ = some (.string ⟨#[80]⟩) := by rw [Lib.cell_of_heap g2.out]; rfl
  have y1 : U2.cell? ⟨q2, 1, none⟩ = some (.string ⟨#[80, 65]⟩) := by rw [Lib.cell_of_heap g2.out]; rfl
  have y2 : U2.cell? ⟨q2, 2, none⟩ = some (.string ⟨#[80, 66]⟩) := by rw [Lib.cell_of_heap g2.out]; rfl
  have y3 : U2.cell? ⟨q2, 3, none⟩ = some (.string ⟨#[81]⟩) := by rw [Lib.cell_of_heap g2.out]; rfl
  have y4 : U2.cell? ⟨q2, 4, none⟩ = some (.bool true) := by rw [Lib.cell_of_heap g2.out]; rfl
  have y5 : U2.cell? ⟨q2, 5, none⟩ = some (.string ⟨#[69, 85, 82]⟩) := by rw [Lib.cell_of_heap g2.out]; rfl
  have y6 : U2.cell? ⟨q2, 6, none⟩ = some (.string ⟨#[69, 85, 82]⟩) := by rw [Lib.cell_of_heap g2.out]; rfl
  have y7 : U2.cell? ⟨q2, 7, none⟩ = some (.string ⟨#[]⟩) := by rw [Lib.cell_of_heap g2.out]; rfl
  have y8 : U2.cell? ⟨q2, 8, none⟩ = some (.int .i64 qty) := by rw [Lib.cell_of_heap g2.out]; rfl
  have y9 : U2.cell? ⟨q2, 9, none⟩ = some (.int .i64 am) := by rw [Lib.cell_of_heap g2.out]; rfl
  have y10 : U2.cell? ⟨q2, 10, none⟩ = some (.int .i64 dy) := by rw [Lib.cell_of_heap g2.out]; rfl
  have y11 : U2.cell? ⟨q2, 11, none⟩ = some (.int .i64 0) := by rw [Lib.cell_of_heap g2.out]; rfl
  go_wp2_with fail
  clear y0 y1 y2 y3 y4 y5 y6 y7 y8 y9 y10 y11
  refine CK2.out.mono ?_
  rintro e U3 ⟨rfl, hu3⟩
  have HU3 : Hid (Below X5.heap.size X5 U3) := HU2.out.trans (hu3.mono HU2.out.size)
  clear hu3 CK2 g2
  have g3 : Hid (U3.heap[q3]? = some (.cells #[.string ⟨#[80]⟩, .string ⟨#[80, 65]⟩, .string ⟨#[80, 66]⟩, .string ⟨#[81]⟩, .bool true, .string ⟨#[89]⟩, .string ⟨#[71, 66, 80]⟩, .string ⟨#[]⟩, .int .i64 qty, .int .i64 am, .int .i64 dy, .int .i64 0] 23 (0, 0))) := (HU3.out.block q3 (Blk.lt (t := 23) HH3.out)).trans HH3.out
  have CK3 : Hid (Calls Try.prog 34 #[.pointer (some ⟨r, 0, none⟩), .agg #[.string ⟨#[80]⟩, .string ⟨#[80, 65]⟩, .string ⟨#[80, 66]⟩, .string ⟨#[81]⟩, .bool true, .string ⟨#[89]⟩, .string ⟨#[71, 66, 80]⟩, .string ⟨#[]⟩, .int .i64 qty, .int .i64 am, .int .i64 dy, .int .i64 0], .int .i64 0] U3 fun e w' => e = .returned (.int .i64 7) ∧ Below U3.heap.size U3 w') := by
    have h := check_any r sw3 sw3_ok sw_ne sw_unit (tRd qty am dy) (fits_Rd HQ.out HM.out HD.out) 0 U3 (HKX5.out.below HU3.out)
    rw [rp_d] at h
    exact h
  have y0 : U3.cell? ⟨q3, 0, none⟩ = some (.string ⟨#[80]⟩) := by rw [Lib.cell_of_heap g3.out]; rfl
  have y1 : U3.cell? ⟨q3, 1, none⟩ = some (.string ⟨#[80, 65]⟩) := by rw [Lib.cell_of_heap g3.out]; rfl
  have y2 : U3.cell? ⟨q3, 2, none⟩ = some (.string ⟨#[80, 66]⟩) := by rw [Lib.cell_of_heap g3.out]; rfl
  have y3 : U3.cell? ⟨q3, 3, none⟩ = some (.string ⟨#[81]⟩) := by rw [Lib.cell_of_heap g3.out]; rfl
  have y4 : U3.cell? ⟨q3, 4, none⟩ = some (.bool true) := by rw [Lib.cell_of_heap g3.out]; rfl
  have y5 : U3.cell? ⟨q3, 5, none⟩ = some (.string ⟨#[89]⟩) := by rw [Lib.cell_of_heap g3.out]; rfl
  have y6 : U3.cell? ⟨q3, 6, none⟩ = some (.string ⟨#[71, 66, 80]⟩) := by rw [Lib.cell_of_heap g3.out]; rfl
  have y7 : U3.cell? ⟨q3, 7, none⟩ = some (.string ⟨#[]⟩) := by rw [Lib.cell_of_heap g3.out]; rfl
  have y8 : U3.cell? ⟨q3, 8, none⟩ = some (.int .i64 qty) := by rw [Lib.cell_of_heap g3.out]; rfl
  have y9 : U3.cell? ⟨q3, 9, none⟩ = some (.int .i64 am) := by rw [Lib.cell_of_heap g3.out]; rfl
  have y10 : U3.cell? ⟨q3, 10, none⟩ = some (.int .i64 dy) := by rw [Lib.cell_of_heap g3.out]; rfl
  have y11 : U3.cell? ⟨q3, 11, none⟩ = some (.int .i64 0) := by rw [Lib.cell_of_heap g3.out]; rfl
  go_wp2_with fail
  clear y0 y1 y2 y3 y4 y5 y6 y7 y8 y9 y10 y11
  refine CK3.out.mono ?_
  rintro e U4 ⟨rfl, hu4⟩
  have HU4 : Hid (Below X5.heap.size X5 U4) := HU3.out.trans (hu4.mono HU3.out.size)
  clear hu4 CK3 g3
  have g4 : Hid (U4.heap[q4]? = some (.cells #[.string ⟨#[80]⟩, .string ⟨#[80, 65]⟩, .string ⟨#[80, 66]⟩, .string ⟨#[66, 65, 78, 75]⟩, .bool true, .string ⟨#[89]⟩, .string ⟨#[69, 85, 82]⟩, .string ⟨#[]⟩, .int .i64 qty, .int .i64 am, .int .i64 dy, .int .i64 0] 23 (0, 0))) := (HU4.out.block q4 (Blk.lt (t := 23) HH4.out)).trans HH4.out
  have CK4 : Hid (Calls Try.prog 34 #[.pointer (some ⟨r, 0, none⟩), .agg #[.string ⟨#[80]⟩, .string ⟨#[80, 65]⟩, .string ⟨#[80, 66]⟩, .string ⟨#[66, 65, 78, 75]⟩, .bool true, .string ⟨#[89]⟩, .string ⟨#[69, 85, 82]⟩, .string ⟨#[]⟩, .int .i64 qty, .int .i64 am, .int .i64 dy, .int .i64 0], .int .i64 0] U4 fun e w' => e = .returned (.int .i64 1) ∧ Below U4.heap.size U4 w') := by
    have h := check_any r sw3 sw3_ok sw_ne sw_unit (tRf qty am dy) (fits_Rf HQ.out HM.out HD.out) 0 U4 (HKX5.out.below HU4.out)
    rw [rp_f] at h
    exact h
  have y0 : U4.cell? ⟨q4, 0, none⟩ = some (.string ⟨#[80]⟩) := by rw [Lib.cell_of_heap g4.out]; rfl
  have y1 : U4.cell? ⟨q4, 1, none⟩ = some (.string ⟨#[80, 65]⟩) := by rw [Lib.cell_of_heap g4.out]; rfl
  have y2 : U4.cell? ⟨q4, 2, none⟩ = some (.string ⟨#[80, 66]⟩) := by rw [Lib.cell_of_heap g4.out]; rfl
  have y3 : U4.cell? ⟨q4, 3, none⟩ = some (.string ⟨#[66, 65, 78, 75]⟩) := by rw [Lib.cell_of_heap g4.out]; rfl
  have y4 : U4.cell? ⟨q4, 4, none⟩ = some (.bool true) := by rw [Lib.cell_of_heap g4.out]; rfl
  have y5 : U4.cell? ⟨q4, 5, none⟩ = some (.string ⟨#[89]⟩) := by rw [Lib.cell_of_heap g4.out]; rfl
  have y6 : U4.cell? ⟨q4, 6, none⟩ = some (.string ⟨#[69, 85, 82]⟩) := by rw [Lib.cell_of_heap g4.out]; rfl
  have y7 : U4.cell? ⟨q4, 7, none⟩ = some (.string ⟨#[]⟩) := by rw [Lib.cell_of_heap g4.out]; rfl
  have y8 : U4.cell? ⟨q4, 8, none⟩ = some (.int .i64 qty) := by rw [Lib.cell_of_heap g4.out]; rfl
  have y9 : U4.cell? ⟨q4, 9, none⟩ = some (.int .i64 am) := by rw [Lib.cell_of_heap g4.out]; rfl
  have y10 : U4.cell? ⟨q4, 10, none⟩ = some (.int .i64 dy) := by rw [Lib.cell_of_heap g4.out]; rfl
  have y11 : U4.cell? ⟨q4, 11, none⟩ = some (.int .i64 0) := by rw [Lib.cell_of_heap g4.out]; rfl
  go_wp2_with fail
  clear y0 y1 y2 y3 y4 y5 y6 y7 y8 y9 y10 y11
  refine CK4.out.mono ?_
  rintro e U5 ⟨rfl, hu5⟩
  have HU5 : Hid (Below X5.heap.size X5 U5) := HU4.out.trans (hu5.mono HU4.out.size)
  clear hu5 CK4 g4
  have HB9 : Hid (Below w.heap.size w U5) := HBX5.out.trans (HU5.out.mono HBX5.out.size)
  go_wp2
  go_ret
  exact ⟨rfl, HB9.out⟩
end Go.Proofs.Ytkcecijepbceiaa
