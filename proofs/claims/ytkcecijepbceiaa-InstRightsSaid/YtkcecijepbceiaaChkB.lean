/-
  What is wrong with what a term is about (inst.goods) as a contract.
  Conditions: the caller's memory stays.
-/
import Derived.Test.YtkcecijepbceiaaChkPlain
import Derived.Test.YtkcecijepbceiaaR8a
import Derived.Test.YtkcecijepbceiaaRef4S
namespace Go.Proofs.Ytkcecijepbceiaa
open Go.RowKit Go.Maps Go.Shelf
attribute [local go_sem ↓] Go.wp_at_zero Go.wp_at_succ
set_option maxRecDepth 100000

theorem in12_any (n a b : Int) (w : World) : Calls Try.prog 70 #[.int .i64 n, .int .i64 a, .int .i64 b] w fun e w' => e = .returned (.bool (inB n a b)) ∧ w = w' := by
  by_cases h0 : a ≤ n
  · by_cases h1 : n ≤ b
    · rw [inB_yes.2 ⟨h0, h1⟩]
      go_enter Try.func70, Try.ntmps70
      go_wp2
      go_ret
      exact ⟨ret_bool (by first | rfl | simp | simp [h1]), rfl⟩
    · rw [inB_no.2 (by omega)]
      have hd : decide (n ≤ b) = false := decide_eq_false h1
      go_enter Try.func70, Try.ntmps70
      go_wp2
      go_ret
      exact ⟨ret_bool (by first | rfl | simp), rfl⟩
  · rw [inB_no.2 (by omega)]
    have hd : decide (a ≤ n) = false := decide_eq_false h0
    go_enter Try.func70, Try.ntmps70
    go_wp2
    go_ret
    exact ⟨ret_bool (by first | rfl | simp), rfl⟩
set_option maxHeartbeats 16000000 in
theorem goods_any (r : Nat) (st : Rf) (hok : st.Ok) (hne : Maps.size st.s ≠ 0) (hU : AllR Asset st.s UnitOk) (t : Trm) (ht : t.Fits) (w : World) (h : RefAt r st w) :
    Calls Try.prog 68 #[.pointer (some ⟨r, 0, none⟩), .agg #[.string t.p, .string t.a, .string t.m, .string t.o, .bool t.dl, .string t.s, .string t.c, .string t.r, .int .i64 t.q, .int .i64 t.am, .int .i64 t.dy, .int .i64 t.td]] w fun e w' => e = .returned (.int .i64 (chkG st t)) ∧ Below w.heap.size w w' := by
  obtain ⟨E, hE0⟩ : ∃ E, chkG st t = E := ⟨_, rfl⟩
  have HE0 := Lib.hid hE0
  have HU := Lib.hid hU
  rw [hE0]
  clear hE0 hU
  have HK := Lib.hid h
  have hrl := h.lt
  obtain ⟨c3, HC3⟩ : ∃ c3, Hid (w.heap.size = c3) := ⟨_, rfl⟩
  obtain ⟨W0, HW0⟩ : ∃ W0, Hid (w.alloc (.cells #[.string t.p, .string t.a, .string t.m, .string t.o, .bool t.dl, .string t.s, .string t.c, .string t.r, .int .i64 t.q, .int .i64 t.am, .int .i64 t.dy, .int .i64 t.td] 23) = W0) := ⟨_, rfl⟩
  have HB0 : Hid (Below w.heap.size w W0) := by show Below _ _ _; rw [← HW0.out]; exact (Below.refl _ _).alloc (Nat.le_refl _) _
  have HY0 : Hid (W0.heap[c3]? = some (.cells #[.string t.p, .string t.a, .string t.m, .string t.o, .bool t.dl, .string t.s, .string t.c, .string t.r, .int .i64 t.q, .int .i64 t.am, .int .i64 t.dy, .int .i64 t.td] 23 (0, 0))) := by show _ = _; rw [← HW0.out, ← HC3.out]; exact heap_alloc_new _ _
  have hzW0 : c3 < W0.heap.size := by rw [← HW0.out, ← HC3.out]; simp
  clear h
  go_enter Try.func68, Try.ntmps68
  have qW1 := getS_any r st hok.gs hne t.s (ht.texts _ (by simp [Trm.texts])) W0 (HK.out.below HB0.out)
  obtain ⟨zW1, hzW1⟩ : ∃ z, recAt Asset st.s t.s = z := ⟨_, rfl⟩
  obtain ⟨b1, hb1⟩ : ∃ b, hasS st.s t.s = b := ⟨_, rfl⟩
  rw [hzW1, hb1] at qW1
  have QW1 : Hid (Calls Try.prog 109 #[.pointer (some ⟨r, 0, none⟩), .string t.s] W0 fun e w' => e = .returned (.tuple #[.agg #[.string zW1.name, .bool zW1.cash, .bool zW1.pledge, .int .i64 zW1.unit, .int .i64 zW1.least, .int .i64 zW1.price, .int .i64 zW1.cut, .int .i64 zW1.close], .bool b1]) ∧ Below W0.heap.size W0 w') := qW1
  have Hb1 := Lib.hid hb1
  have HZW1 := Lib.hid hzW1
  clear qW1 hzW1 hb1
  have y0 : W0.cell? ⟨c3, 5, none⟩ = some (.string t.s) := by rw [Lib.cell_of_heap HY0.out]; rfl
  go_wp2_with fail
  rw [HW0.out, HC3.out]
  refine QW1.out.mono ?_
  rintro e uW1 ⟨rfl, hbW1⟩
  obtain ⟨W1, HW1⟩ : ∃ W, Hid (uW1.alloc (.cells #[.string zW1.name, .bool zW1.cash, .bool zW1.pledge, .int .i64 zW1.unit, .int .i64 zW1.least, .int .i64 zW1.price, .int .i64 zW1.cut, .int .i64 zW1.close] 138) = W) := ⟨_, rfl⟩
  have hbbW1 : Below W0.heap.size W0 W1 := by rw [← HW1.out]; exact hbW1.alloc hbW1.size _
  have HRW1 : Hid (W1.heap[uW1.heap.size]? = some (.cells #[.string zW1.name, .bool zW1.cash, .bool zW1.pledge, .int .i64 zW1.unit, .int .i64 zW1.least, .int .i64 zW1.price, .int .i64 zW1.cut, .int .i64 zW1.close] 138 (0, 0))) := by show _ = _; rw [← HW1.out]; exact heap_alloc_new _ _
  have hlW1 : uW1.heap.size < W1.heap.size := by rw [← HW1.out]; simp
  have HB1 : Hid (Below w.heap.size w W1) := HB0.out.trans (hbbW1.mono HB0.out.size)
  have HY1 := Lib.hid ((hbbW1.block c3 hzW0).trans HY0.out)
  have hzW1 : c3 < W1.heap.size := Nat.lt_of_lt_of_le hzW0 hbbW1.size
  clear hbW1 hbbW1 QW1 y0
  have qW2 := getS_any r st hok.gs hne t.c (ht.texts _ (by simp [Trm.texts])) W1 (HK.out.below HB1.out)
  obtain ⟨zW2, hzW2⟩ : ∃ z, recAt Asset st.s t.c = z := ⟨_, rfl⟩
  obtain ⟨b2, hb2⟩ : ∃ b, hasS st.s t.c = b := ⟨_, rfl⟩
  rw [hzW2, hb2] at qW2
  have QW2 : Hid (Calls Try.prog 109 #[.pointer (some ⟨r, 0, none⟩), .string t.c] W1 fun e w' => e = .returned (.tuple #[.agg #[.string zW2.name, .bool zW2.cash, .bool zW2.pledge, .int .i64 zW2.unit, .int .i64 zW2.least, .int .i64 zW2.price, .int .i64 zW2.cut, .int .i64 zW2.close], .bool b2]) ∧ Below W1.heap.size W1 w') := qW2
  have Hb2 := Lib.hid hb2
  have HZW2 := Lib.hid hzW2
  clear qW2 hzW2 hb2
  have y0 : W1.cell? ⟨c3, 6, none⟩ = some (.string t.c) := by rw [Lib.cell_of_heap HY1.out]; rfl
  have hWo := HW1.out
  go_wp2_with fail
  clear hWo
  refine QW2.out.mono ?_
  rintro e uW2 ⟨rfl, hbW2⟩
  obtain ⟨W2, HW2⟩ : ∃ W, Hid (uW2.alloc (.cells #[.string zW2.name, .bool zW2.cash, .bool zW2.pledge, .int .i64 zW2.unit, .int .i64 zW2.least, .int .i64 zW2.price, .int .i64 zW2.cut, .int .i64 zW2.close] 138) = W) := ⟨_, rfl⟩
  have hbbW2 : Below W1.heap.size W1 W2 := by rw [← HW2.out]; exact hbW2.alloc hbW2.size _
  have HRW2 : Hid (W2.heap[uW2.heap.size]? = some (.cells #[.string zW2.name, .bool zW2.cash, .bool zW2.pledge, .int .i64 zW2.unit, .int .i64 zW2.least, .int .i64 zW2.price, .int .i64 zW2.cut, .int .i64 zW2.close] 138 (0, 0))) := by show _ = _; rw [← HW2.out]; exact heap_alloc_new _ _
  have hlW2 : uW2.heap.size < W2.heap.size := by rw [← HW2.out]; simp
  have HB2 : Hid (Below w.heap.size w W2) := HB1.out.trans (hbbW2.mono HB1.out.size)
  have HY2 := Lib.hid ((hbbW2.block c3 hzW1).trans HY1.out)
  have hzW2 : c3 < W2.heap.size := Nat.lt_of_lt_of_le hzW1 hbbW2.size
  replace HRW1 := Lib.hid ((hbbW2.block _ hlW1).trans HRW1.out)
  replace hlW1 : uW1.heap.size < W2.heap.size := Nat.lt_of_lt_of_le hlW1 hbbW2.size
  clear hbW2 hbbW2 QW2 y0
  have y8 : W2.cell? ⟨c3, 8, none⟩ = some (.int .i64 t.q) := by rw [Lib.cell_of_heap HY2.out]; rfl
  have y9 : W2.cell? ⟨c3, 9, none⟩ = some (.int .i64 t.am) := by rw [Lib.cell_of_heap HY2.out]; rfl
  obtain ⟨ca, hca⟩ : ∃ b, zW1.cash = b := ⟨_, rfl⟩
  obtain ⟨cc, hcc⟩ : ∃ b, zW2.cash = b := ⟨_, rfl⟩
  have HCA := Lib.hid hca
  have HCC := Lib.hid hcc
  have r11 : W2.cell? ⟨uW1.heap.size, 1, none⟩ = some (.bool ca) := by rw [Lib.cell_of_heap HRW1.out, ← hca]; rfl
  have r13 : W2.cell? ⟨uW1.heap.size, 3, none⟩ = some (.int .i64 zW1.unit) := by rw [Lib.cell_of_heap HRW1.out]; rfl
  have r14 : W2.cell? ⟨uW1.heap.size, 4, none⟩ = some (.int .i64 zW1.least) := by rw [Lib.cell_of_heap HRW1.out]; rfl
  have r21 : W2.cell? ⟨uW2.heap.size, 1, none⟩ = some (.bool cc) := by rw [Lib.cell_of_heap HRW2.out, ← hcc]; rfl
  clear hca hcc
  have hWo := HW2.out
  cases b1
  · have hE : E = 7 := by
      rw [← HE0.out]
      unfold chkG; rw [HZW1.out, HZW2.out]; rw [if_pos Hb1.out]
    go_wp2
    go_ret
    exact ⟨by rw [hE]; rfl, HB2.out⟩
  · cases b2
    · have hE : E = 7 := by
        rw [← HE0.out]
        unfold chkG; rw [HZW1.out, HZW2.out]; rw [if_neg (by rw [Hb1.out]; decide), if_pos Hb2.out]
      go_wp2
      go_ret
      exact ⟨by rw [hE]; rfl, HB2.out⟩
    · cases ca
      · cases cc
        · have hE : E = 1 := by
            rw [← HE0.out]
            unfold chkG; rw [HZW1.out, HZW2.out]; rw [if_neg (by rw [Hb1.out]; decide), if_neg (by rw [Hb2.out]; decide), if_neg (by rw [HCA.out]; decide), if_pos HCC.out]
          go_wp2
          go_ret
          exact ⟨by rw [hE]; rfl, HB2.out⟩
        · have hU1 := HU.out t.s Hb1.out
          rw [HZW1.out] at hU1
          obtain ⟨hu1, hu2, hu3, hu4⟩ := hU1
          go_wp2_with fail
          refine (in12_any t.q zW1.least 1099511627776 _).mono ?_
          rintro e w9 ⟨rfl, rfl⟩
          cases hi : inB t.q zW1.least 1099511627776
          · have hix := inB_no.1 hi
            have hE : E = 33 := by
              rw [← HE0.out]
              unfold chkG; rw [HZW1.out, HZW2.out]; rw [if_neg (by rw [Hb1.out]; decide), if_neg (by rw [Hb2.out]; decide), if_neg (by rw [HCA.out]; decide), if_neg (by rw [HCC.out]; decide)]
              by_cases h5 : t.q < zW1.least
              · exact if_pos h5
              · rw [if_neg h5]
                exact if_pos (by omega)
            go_wp2
            go_ret
            exact ⟨by rw [hE]; rfl, HB2.out⟩
          · have hix := inB_yes.1 hi
            by_cases h3 : t.q % zW1.unit = 0
            · have h3b : (t.q % zW1.unit == 0) = true := by simp [h3]
              have h3c : (t.q % zW1.unit != 0) = false := by simp [h3]
              have HR3 := Lib.hid h3
              clear h3
              go_wp2_with fail
              refine (in12_any t.am 0 1125899906842624 _).mono ?_
              rintro e w9 ⟨rfl, rfl⟩
              cases ha : inB t.am 0 1125899906842624
              · have hax := inB_no.1 ha
                have hE : E = 1 := by
                  rw [← HE0.out]
                  unfold chkG; rw [HZW1.out, HZW2.out]; rw [if_neg (by rw [Hb1.out]; decide), if_neg (by rw [Hb2.out]; decide), if_neg (by rw [HCA.out]; decide), if_neg (by rw [HCC.out]; decide), if_neg (by omega), if_neg (by omega), if_neg (fun h => h HR3.out)]
                  by_cases h5 : t.am < 0
                  · exact if_pos h5
                  · rw [if_neg h5]
                    exact if_pos (by omega)
                go_wp2
                go_ret
                exact ⟨by rw [hE]; rfl, HB2.out⟩
              · have hax := inB_yes.1 ha
                have hE : E = 0 := by
                  rw [← HE0.out]
                  unfold chkG; rw [HZW1.out, HZW2.out]; rw [if_neg (by rw [Hb1.out]; decide), if_neg (by rw [Hb2.out]; decide), if_neg (by rw [HCA.out]; decide), if_neg (by rw [HCC.out]; decide), if_neg (by omega), if_neg (by omega), if_neg (fun h => h HR3.out), if_neg (by omega), if_neg (by omega)]
                go_wp2
                go_ret
                exact ⟨by rw [hE]; rfl, HB2.out⟩
            · have h3b : (t.q % zW1.unit == 0) = false := by simp [h3]
              have h3c : (t.q % zW1.unit != 0) = true := by simp [h3]
              have HR3 := Lib.hid h3
              clear h3
              have hE : E = 33 := by
                rw [← HE0.out]
                unfold chkG; rw [HZW1.out, HZW2.out]; rw [if_neg (by rw [Hb1.out]; decide), if_neg (by rw [Hb2.out]; decide), if_neg (by rw [HCA.out]; decide), if_neg (by rw [HCC.out]; decide), if_neg (by omega), if_neg (by omega), if_pos HR3.out]
              go_wp2
              go_ret
              exact ⟨by rw [hE]; rfl, HB2.out⟩
      · have hE : E = 1 := by
          rw [← HE0.out]
          unfold chkG; rw [HZW1.out, HZW2.out]; rw [if_neg (by rw [Hb1.out]; decide), if_neg (by rw [Hb2.out]; decide), if_pos HCA.out]
        go_wp2
        go_ret
        exact ⟨by rw [hE]; rfl, HB2.out⟩
end Go.Proofs.Ytkcecijepbceiaa
