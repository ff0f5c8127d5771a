/-
  What is wrong with a term (complineref12.Check) as a contract.
  Conditions: the caller's memory stays.
-/
import Derived.Test.YtkcecijepbceiaaChkPlain
import Derived.Test.YtkcecijepbceiaaR8g
import Derived.Test.YtkcecijepbceiaaChkA
import Derived.Deep.DrawnRows
namespace Go.Proofs.Ytkcecijepbceiaa
open Go.RowKit Go.Maps Go.Shelf
attribute [local go_sem ↓] Go.wp_at_zero Go.wp_at_succ
set_option maxRecDepth 100000

theorem same_rec {α : Type} [Kd α] {D : DataW Unit} {P : List α} (h : SameK D P) (s : ByteArray) : (findK P s).getD Kd.zero = recAt α D s := by
  rw [h.find s]
  by_cases e : hasS D s = true
  · rw [if_pos e]; rfl
  · rw [if_neg e]
    exact (recAt_none (by simpa using e)).symm
set_option maxHeartbeats 40000000 in
theorem check8_any (x : Nat) (sx : R8) (st : Rf) (hp : SameK st.p sx.p) (ha : SameK st.a sx.a) (hs : SameK st.s sx.s) (hI : ∀ d, isI sx.l d = isB st.h d) (hl0 : sx.l.length ≤ 100000) (hl1 : sx.p.length ≤ 100000) (hl2 : sx.a.length ≤ 100000) (hl3 : sx.s.length ≤ 100000) (hU : AllR Asset st.s UnitOk) (t : Trm) (ht : t.Fits) (today : Int) (w : World) (h : R8At x sx w) :
    Calls Try.prog 35 #[.pointer (some ⟨x, 0, none⟩), .agg #[.string t.p, .string t.a, .string t.m, .string t.o, .bool t.dl, .string t.s, .string t.c, .string t.r, .int .i64 t.q, .int .i64 t.am, .int .i64 t.dy, .int .i64 t.td], .int .i64 today] w fun e w' => e = .returned (.int .i64 (chkC st t today)) ∧ Below w.heap.size w w' := by
  obtain ⟨E, hE0⟩ : ∃ E, chkC st t today = E := ⟨_, rfl⟩
  have HE0 := Lib.hid hE0
  have HU := Lib.hid hU
  have HI := Lib.hid hI
  rw [hE0]
  clear hE0 hU hI
  have HK := Lib.hid h
  have hrl := h.lt
  obtain ⟨c3, HC3⟩ : ∃ c3, Hid (w.heap.size = c3) := ⟨_, rfl⟩
  obtain ⟨W0, HW0⟩ : ∃ W0, Hid (w.alloc (.cells #[.string t.p, .string t.a, .string t.m, .string t.o, .bool t.dl, .string t.s, .string t.c, .string t.r, .int .i64 t.q, .int .i64 t.am, .int .i64 t.dy, .int .i64 t.td] 23) = W0) := ⟨_, rfl⟩
  have HB0 : Hid (Below w.heap.size w W0) := by show Below _ _ _; rw [← HW0.out]; exact (Below.refl _ _).alloc (Nat.le_refl _) _
  have HY0 : Hid (W0.heap[c3]? = some (.cells #[.string t.p, .string t.a, .string t.m, .string t.o, .bool t.dl, .string t.s, .string t.c, .string t.r, .int .i64 t.q, .int .i64 t.am, .int .i64 t.dy, .int .i64 t.td] 23 (0, 0))) := by show _ = _; rw [← HW0.out, ← HC3.out]; exact heap_alloc_new _ _
  have hzW0 : c3 < W0.heap.size := by rw [← HW0.out, ← HC3.out]; simp
  have hrs := ht.texts t.r (by simp [Trm.texts])
  clear h
  go_enter Try.func35, Try.ntmps35
  have qW1 := lookP8_any x sx t.p W0 (HK.out.below HB0.out) (by omega)
  rw [hp.has, same_rec hp] at qW1
  obtain ⟨zW1, hzW1⟩ : ∃ z, recAt Party st.p t.p = z := ⟨_, rfl⟩
  obtain ⟨b1, hb1⟩ : ∃ b, hasS st.p t.p = b := ⟨_, rfl⟩
  rw [hzW1, hb1] at qW1
  have QW1 : Hid (Calls Try.prog 71 #[.pointer (some ⟨x, 0, none⟩), .string t.p] W0 fun e w' => e = .returned (.tuple #[.agg #[.string zW1.name, .int .i64 zW1.limit], .bool b1]) ∧ Below W0.heap.size W0 w') := qW1
  have Hb1 := Lib.hid hb1
  have HZW1 := Lib.hid hzW1
  clear qW1 hzW1 hb1
  have y0 : W0.cell? ⟨c3, 0, none⟩ = some (.string t.p) := by rw [Lib.cell_of_heap HY0.out]; rfl
  go_wp2_with fail
  rw [HW0.out, HC3.out]
  refine QW1.out.mono ?_
  rintro e uW1 ⟨rfl, hbW1⟩
  obtain ⟨W1, HW1⟩ : ∃ W, Hid (uW1.alloc (.cells #[.string zW1.name, .int .i64 zW1.limit] 130) = W) := ⟨_, rfl⟩
  have hbbW1 : Below W0.heap.size W0 W1 := by rw [← HW1.out]; exact hbW1.alloc hbW1.size _
  have HRW1 : Hid (W1.heap[uW1.heap.size]? = some (.cells #[.string zW1.name, .int .i64 zW1.limit] 130 (0, 0))) := by show _ = _; rw [← HW1.out]; exact heap_alloc_new _ _
  have hlW1 : uW1.heap.size < W1.heap.size := by rw [← HW1.out]; simp
  have HB1 : Hid (Below w.heap.size w W1) := HB0.out.trans (hbbW1.mono HB0.out.size)
  have HY1 := Lib.hid ((hbbW1.block c3 hzW0).trans HY0.out)
  have hzW1 : c3 < W1.heap.size := Nat.lt_of_lt_of_le hzW0 hbbW1.size
  clear hbW1 hbbW1 QW1 y0
  have qW2 := lookA8_any x sx t.a W1 (HK.out.below HB1.out) (by omega)
  rw [ha.has, same_rec ha] at qW2
  obtain ⟨zW2, hzW2⟩ : ∃ z, recAt Account st.a t.a = z := ⟨_, rfl⟩
  obtain ⟨b2, hb2⟩ : ∃ b, hasS st.a t.a = b := ⟨_, rfl⟩
  rw [hzW2, hb2] at qW2
  have QW2 : Hid (Calls Try.prog 72 #[.pointer (some ⟨x, 0, none⟩), .string t.a] W1 fun e w' => e = .returned (.tuple #[.agg #[.string zW2.name, .string zW2.party], .bool b2]) ∧ Below W1.heap.size W1 w') := qW2
  have Hb2 := Lib.hid hb2
  have HZW2 := Lib.hid hzW2
  clear qW2 hzW2 hb2
  have y0 : W1.cell? ⟨c3, 1, none⟩ = some (.string t.a) := by rw [Lib.cell_of_heap HY1.out]; rfl
  have hWo := HW1.out
  go_wp2_with fail
  clear hWo
  refine QW2.out.mono ?_
  rintro e uW2 ⟨rfl, hbW2⟩
  obtain ⟨W2, HW2⟩ : ∃ W, Hid (uW2.alloc (.cells #[.string zW2.name, .string zW2.party] 134) = W) := ⟨_, rfl⟩
  have hbbW2 : Below W1.heap.size W1 W2 := by rw [← HW2.out]; exact hbW2.alloc hbW2.size _
  have HRW2 : Hid (W2.heap[uW2.heap.size]? = some (.cells #[.string zW2.name, .string zW2.party] 134 (0, 0))) := by show _ = _; rw [← HW2.out]; exact heap_alloc_new _ _
  have hlW2 : uW2.heap.size < W2.heap.size := by rw [← HW2.out]; simp
  have HB2 : Hid (Below w.heap.size w W2) := HB1.out.trans (hbbW2.mono HB1.out.size)
  have HY2 := Lib.hid ((hbbW2.block c3 hzW1).trans HY1.out)
  have hzW2 : c3 < W2.heap.size := Nat.lt_of_lt_of_le hzW1 hbbW2.size
  clear hbW2 hbbW2 QW2 y0
  have qW3 := lookA8_any x sx t.m W2 (HK.out.below HB2.out) (by omega)
  rw [ha.has, same_rec ha] at qW3
  obtain ⟨zW3, hzW3⟩ : ∃ z, recAt Account st.a t.m = z := ⟨_, rfl⟩
  obtain ⟨b3, hb3⟩ : ∃ b, hasS st.a t.m = b := ⟨_, rfl⟩
  rw [hzW3, hb3] at qW3
  have QW3 : Hid (Calls Try.prog 72 #[.pointer (some ⟨x, 0, none⟩), .string t.m] W2 fun e w' => e = .returned (.tuple #[.agg #[.string zW3.name, .string zW3.party], .bool b3]) ∧ Below W2.heap.size W2 w') := qW3
  have Hb3 := Lib.hid hb3
  have HZW3 := Lib.hid hzW3
  clear qW3 hzW3 hb3
  have y0 : W2.cell? ⟨c3, 2, none⟩ = some (.string t.m) := by rw [Lib.cell_of_heap HY2.out]; rfl
  have hWo := HW2.out
  go_wp2_with fail
  clear hWo
  refine QW3.out.mono ?_
  rintro e uW3 ⟨rfl, hbW3⟩
  obtain ⟨W3, HW3⟩ : ∃ W, Hid (uW3.alloc (.cells #[.string zW3.name, .string zW3.party] 134) = W) := ⟨_, rfl⟩
  have hbbW3 : Below W2.heap.size W2 W3 := by rw [← HW3.out]; exact hbW3.alloc hbW3.size _
  have HRW3 : Hid (W3.heap[uW3.heap.size]? = some (.cells #[.string zW3.name, .string zW3.party] 134 (0, 0))) := by show _ = _; rw [← HW3.out]; exact heap_alloc_new _ _
  have hlW3 : uW3.heap.size < W3.heap.size := by rw [← HW3.out]; simp
  have HB3 : Hid (Below w.heap.size w W3) := HB2.out.trans (hbbW3.mono HB2.out.size)
  have HY3 := Lib.hid ((hbbW3.block c3 hzW2).trans HY2.out)
  have hzW3 : c3 < W3.heap.size := Nat.lt_of_lt_of_le hzW2 hbbW3.size
  replace HRW2 := Lib.hid ((hbbW3.block _ hlW2).trans HRW2.out)
  replace hlW2 : uW2.heap.size < W3.heap.size := Nat.lt_of_lt_of_le hlW2 hbbW3.size
  clear hbW3 hbbW3 QW3 y0
  have qW4 := lookP8_any x sx t.o W3 (HK.out.below HB3.out) (by omega)
  rw [hp.has, same_rec hp] at qW4
  obtain ⟨zW4, hzW4⟩ : ∃ z, recAt Party st.p t.o = z := ⟨_, rfl⟩
  obtain ⟨b4, hb4⟩ : ∃ b, hasS st.p t.o = b := ⟨_, rfl⟩
  rw [hzW4, hb4] at qW4
  have QW4 : Hid (Calls Try.prog 71 #[.pointer (some ⟨x, 0, none⟩), .string t.o] W3 fun e w' => e = .returned (.tuple #[.agg #[.string zW4.name, .int .i64 zW4.limit], .bool b4]) ∧ Below W3.heap.size W3 w') := qW4
  have Hb4 := Lib.hid hb4
  have HZW4 := Lib.hid hzW4
  clear qW4 hzW4 hb4
  have y0 : W3.cell? ⟨c3, 3, none⟩ = some (.string t.o) := by rw [Lib.cell_of_heap HY3.out]; rfl
  have hWo := HW3.out
  go_wp2_with fail
  clear hWo
  refine QW4.out.mono ?_
  rintro e uW4 ⟨rfl, hbW4⟩
  obtain ⟨W4, HW4⟩ : ∃ W, Hid (uW4.alloc (.cells #[.string zW4.name, .int .i64 zW4.limit] 130) = W) := ⟨_, rfl⟩
  have hbbW4 : Below W3.heap.size W3 W4 := by rw [← HW4.out]; exact hbW4.alloc hbW4.size _
  have HRW4 : Hid (W4.heap[uW4.heap.size]? = some (.cells #[.string zW4.name, .int .i64 zW4.limit] 130 (0, 0))) := by show _ = _; rw [← HW4.out]; exact heap_alloc_new _ _
  have hlW4 : uW4.heap.size < W4.heap.size := by rw [← HW4.out]; simp
  have HB4 : Hid (Below w.heap.size w W4) := HB3.out.trans (hbbW4.mono HB3.out.size)
  have HY4 := Lib.hid ((hbbW4.block c3 hzW3).trans HY3.out)
  have hzW4 : c3 < W4.heap.size := Nat.lt_of_lt_of_le hzW3 hbbW4.size
  replace HRW2 := Lib.hid ((hbbW4.block _ hlW2).trans HRW2.out)
  replace hlW2 : uW2.heap.size < W4.heap.size := Nat.lt_of_lt_of_le hlW2 hbbW4.size
  replace HRW3 := Lib.hid ((hbbW4.block _ hlW3).trans HRW3.out)
  replace hlW3 : uW3.heap.size < W4.heap.size := Nat.lt_of_lt_of_le hlW3 hbbW4.size
  clear hbW4 hbbW4 QW4 y0
  have qW5 := lookS8_any x sx t.s W4 (HK.out.below HB4.out) (by omega)
  rw [hs.has, same_rec hs] at qW5
  obtain ⟨zW5, hzW5⟩ : ∃ z, recAt Asset st.s t.s = z := ⟨_, rfl⟩
  obtain ⟨b5, hb5⟩ : ∃ b, hasS st.s t.s = b := ⟨_, rfl⟩
  rw [hzW5, hb5] at qW5
  have QW5 : Hid (Calls Try.prog 73 #[.pointer (some ⟨x, 0, none⟩), .string t.s] W4 fun e w' => e = .returned (.tuple #[.agg #[.string zW5.name, .bool zW5.cash, .bool zW5.pledge, .int .i64 zW5.unit, .int .i64 zW5.least, .int .i64 zW5.price, .int .i64 zW5.cut, .int .i64 zW5.close], .bool b5]) ∧ Below W4.heap.size W4 w') := qW5
  have Hb5 := Lib.hid hb5
  have HZW5 := Lib.hid hzW5
  clear qW5 hzW5 hb5
  have y0 : W4.cell? ⟨c3, 5, none⟩ = some (.string t.s) := by rw [Lib.cell_of_heap HY4.out]; rfl
  have hWo := HW4.out
  go_wp2_with fail
  clear hWo
  refine QW5.out.mono ?_
  rintro e uW5 ⟨rfl, hbW5⟩
  obtain ⟨W5, HW5⟩ : ∃ W, Hid (uW5.alloc (.cells #[.string zW5.name, .bool zW5.cash, .bool zW5.pledge, .int .i64 zW5.unit, .int .i64 zW5.least, .int .i64 zW5.price, .int .i64 zW5.cut, .int .i64 zW5.close] 138) = W) := ⟨_, rfl⟩
  have hbbW5 : Below W4.heap.size W4 W5 := by rw [← HW5.out]; exact hbW5.alloc hbW5.size _
  have HRW5 : Hid (W5.heap[uW5.heap.size]? = some (.cells #[.string zW5.name, .bool zW5.cash, .bool zW5.pledge, .int .i64 zW5.unit, .int .i64 zW5.least, .int .i64 zW5.price, .int .i64 zW5.cut, .int .i64 zW5.close] 138 (0, 0))) := by show _ = _; rw [← HW5.out]; exact heap_alloc_new _ _
  have hlW5 : uW5.heap.size < W5.heap.size := by rw [← HW5.out]; simp
  have HB5 : Hid (Below w.heap.size w W5) := HB4.out.trans (hbbW5.mono HB4.out.size)
  have HY5 := Lib.hid ((hbbW5.block c3 hzW4).trans HY4.out)
  have hzW5 : c3 < W5.heap.size := Nat.lt_of_lt_of_le hzW4 hbbW5.size
  replace HRW2 := Lib.hid ((hbbW5.block _ hlW2).trans HRW2.out)
  replace hlW2 : uW2.heap.size < W5.heap.size := Nat.lt_of_lt_of_le hlW2 hbbW5.size
  replace HRW3 := Lib.hid ((hbbW5.block _ hlW3).trans HRW3.out)
  replace hlW3 : uW3.heap.size < W5.heap.size := Nat.lt_of_lt_of_le hlW3 hbbW5.size
  clear hbW5 hbbW5 QW5 y0
  have qW6 := lookS8_any x sx t.c W5 (HK.out.below HB5.out) (by omega)
  rw [hs.has, same_rec hs] at qW6
  obtain ⟨zW6, hzW6⟩ : ∃ z, recAt Asset st.s t.c = z := ⟨_, rfl⟩
  obtain ⟨b6, hb6⟩ : ∃ b, hasS st.s t.c = b := ⟨_, rfl⟩
  rw [hzW6, hb6] at qW6
  have QW6 : Hid (Calls Try.prog 73 #[.pointer (some ⟨x, 0, none⟩), .string t.c] W5 fun e w' => e = .returned (.tuple #[.agg #[.string zW6.name, .bool zW6.cash, .bool zW6.pledge, .int .i64 zW6.unit, .int .i64 zW6.least, .int .i64 zW6.price, .int .i64 zW6.cut, .int .i64 zW6.close], .bool b6]) ∧ Below W5.heap.size W5 w') := qW6
  have Hb6 := Lib.hid hb6
  have HZW6 := Lib.hid hzW6
  clear qW6 hzW6 hb6
  have y0 : W5.cell? ⟨c3, 6, none⟩ = some (.string t.c) := by rw [Lib.cell_of_heap HY5.out]; rfl
  have hWo := HW5.out
  go_wp2_with fail
  clear hWo
  refine QW6.out.mono ?_
  rintro e uW6 ⟨rfl, hbW6⟩
  obtain ⟨W6, HW6⟩ : ∃ W, Hid (uW6.alloc (.cells #[.string zW6.name, .bool zW6.cash, .bool zW6.pledge, .int .i64 zW6.unit, .int .i64 zW6.least, .int .i64 zW6.price, .int .i64 zW6.cut, .int .i64 zW6.close] 138) = W) := ⟨_, rfl⟩
  have hbbW6 : Below W5.heap.size W5 W6 := by rw [← HW6.out]; exact hbW6.alloc hbW6.size _
  have HRW6 : Hid (W6.heap[uW6.heap.size]? = some (.cells #[.string zW6.name, .bool zW6.cash, .bool zW6.pledge, .int .i64 zW6.unit, .int .i64 zW6.least, .int .i64 zW6.price, .int .i64 zW6.cut, .int .i64 zW6.close] 138 (0, 0))) := by show _ = _; rw [← HW6.out]; exact heap_alloc_new _ _
  have hlW6 : uW6.heap.size < W6.heap.size := by rw [← HW6.out]; simp
  have HB6 : Hid (Below w.heap.size w W6) := HB5.out.trans (hbbW6.mono HB5.out.size)
  have HY6 := Lib.hid ((hbbW6.block c3 hzW5).trans HY5.out)
  have hzW6 : c3 < W6.heap.size := Nat.lt_of_lt_of_le hzW5 hbbW6.size
  replace HRW2 := Lib.hid ((hbbW6.block _ hlW2).trans HRW2.out)
  replace hlW2 : uW2.heap.size < W6.heap.size := Nat.lt_of_lt_of_le hlW2 hbbW6.size
  replace HRW3 := Lib.hid ((hbbW6.block _ hlW3).trans HRW3.out)
  replace hlW3 : uW3.heap.size < W6.heap.size := Nat.lt_of_lt_of_le hlW3 hbbW6.size
  replace HRW5 := Lib.hid ((hbbW6.block _ hlW5).trans HRW5.out)
  replace hlW5 : uW5.heap.size < W6.heap.size := Nat.lt_of_lt_of_le hlW5 hbbW6.size
  clear hbW6 hbbW6 QW6 y0
  have y0 : W6.cell? ⟨c3, 0, none⟩ = some (.string t.p) := by rw [Lib.cell_of_heap HY6.out]; rfl
  have y3 : W6.cell? ⟨c3, 3, none⟩ = some (.string t.o) := by rw [Lib.cell_of_heap HY6.out]; rfl
  have r2 : W6.cell? ⟨uW2.heap.size, 1, none⟩ = some (.string zW2.party) := by rw [Lib.cell_of_heap HRW2.out]; rfl
  have r3 : W6.cell? ⟨uW3.heap.size, 1, none⟩ = some (.string zW3.party) := by rw [Lib.cell_of_heap HRW3.out]; rfl
  have hWo := HW6.out
  cases b1
  · have hE : E = 7 := by
      rw [← HE0.out]
      have PX : chkP st t = 7 := by
        unfold chkP; rw [HZW2.out, HZW3.out]
        rw [if_pos Hb1.out]
      unfold chkC
      rw [PX]
      exact if_pos (by decide)
    go_wp2
    go_ret
    exact ⟨by rw [hE]; rfl, HB6.out⟩
  · cases b2
    · have hE : E = 7 := by
        rw [← HE0.out]
        have PX : chkP st t = 7 := by
          unfold chkP; rw [HZW2.out, HZW3.out]
          rw [if_neg (by rw [Hb1.out]; decide), if_pos Hb2.out]
        unfold chkC
        rw [PX]
        exact if_pos (by decide)
      go_wp2
      go_ret
      exact ⟨by rw [hE]; rfl, HB6.out⟩
    · cases b3
      · have hE : E = 7 := by
          rw [← HE0.out]
          have PX : chkP st t = 7 := by
            unfold chkP; rw [HZW2.out, HZW3.out]
            rw [if_neg (by rw [Hb1.out]; decide), if_neg (by rw [Hb2.out]; decide), if_pos Hb3.out]
          unfold chkC
          rw [PX]
          exact if_pos (by decide)
        go_wp2
        go_ret
        exact ⟨by rw [hE]; rfl, HB6.out⟩
      · cases b4
        · have hE : E = 7 := by
            rw [← HE0.out]
            have PX : chkP st t = 7 := by
              unfold chkP; rw [HZW2.out, HZW3.out]
              rw [if_neg (by rw [Hb1.out]; decide), if_neg (by rw [Hb2.out]; decide), if_neg (by rw [Hb3.out]; decide), if_pos Hb4.out]
            unfold chkC
            rw [PX]
            exact if_pos (by decide)
          go_wp2
          go_ret
          exact ⟨by rw [hE]; rfl, HB6.out⟩
        · by_cases hq : zW2.party = t.p
          · have He1 := Lib.hid hq
            have q1e1 : (zW2.party.toList == t.p.toList) = true := by rw [hq]; simp
            have q2e1 : (zW2.party.toList != t.p.toList) = false := by rw [hq]; simp
            clear hq
            by_cases hq : zW3.party = t.p
            · have He2 := Lib.hid hq
              have q1e2 : (zW3.party.toList == t.p.toList) = true := by rw [hq]; simp
              have q2e2 : (zW3.party.toList != t.p.toList) = false := by rw [hq]; simp
              clear hq
              by_cases hq : t.o = t.p
              · have He3 := Lib.hid hq
                have q1e3 : (t.o.toList == t.p.toList) = true := by rw [hq]; simp
                have q2e3 : (t.o.toList != t.p.toList) = false := by rw [hq]; simp
                clear hq
                have hE : E = 1 := by
                  rw [← HE0.out]
                  have PX : chkP st t = 1 := by
                    unfold chkP; rw [HZW2.out, HZW3.out]
                    rw [if_neg (by rw [Hb1.out]; decide), if_neg (by rw [Hb2.out]; decide), if_neg (by rw [Hb3.out]; decide), if_neg (by rw [Hb4.out]; decide), if_neg (fun h => h He1.out), if_neg (fun h => h He2.out), if_pos He3.out]
                  unfold chkC
                  rw [PX]
                  exact if_pos (by decide)
                go_wp2
                go_ret
                exact ⟨by rw [hE]; rfl, HB6.out⟩
              · have He3 := Lib.hid hq
                have q1e3 : (t.o.toList == t.p.toList) = false := by rw [beq_eq_false_iff_ne]; exact fun e => hq (toList_inj e)
                have q2e3 : (t.o.toList != t.p.toList) = true := by rw [bne_iff_ne]; exact fun e => hq (toList_inj e)
                clear hq
                by_cases hq : t.o = bankS
                · have He4 := Lib.hid hq
                  have q1e4 : (t.o.toList == [66, 65, 78, 75]) = true := by rw [hq, bank_list]; simp
                  have q2e4 : (t.o.toList != [66, 65, 78, 75]) = false := by rw [hq, bank_list]; simp
                  have q3e4 : (t.o.toList == (⟨#[66, 65, 78, 75]⟩ : ByteArray).toList) = true := by rw [hq]; exact beq_self_eq_true bankS.toList
                  clear hq
                  have hE : E = 1 := by
                    rw [← HE0.out]
                    have PX : chkP st t = 1 := by
                      unfold chkP; rw [HZW2.out, HZW3.out]
                      rw [if_neg (by rw [Hb1.out]; decide), if_neg (by rw [Hb2.out]; decide), if_neg (by rw [Hb3.out]; decide), if_neg (by rw [Hb4.out]; decide), if_neg (fun h => h He1.out), if_neg (fun h => h He2.out), if_neg He3.out, if_pos He4.out]
                    unfold chkC
                    rw [PX]
                    exact if_pos (by decide)
                  go_wp2
                  go_ret
                  exact ⟨by rw [hE]; rfl, HB6.out⟩
                · have He4 := Lib.hid hq
                  have q1e4 : (t.o.toList == [66, 65, 78, 75]) = false := by rw [beq_eq_false_iff_ne]; exact fun e => hq (toList_inj (e.trans bank_list.symm))
                  have q2e4 : (t.o.toList != [66, 65, 78, 75]) = true := by rw [bne_iff_ne]; exact fun e => hq (toList_inj (e.trans bank_list.symm))
                  have q3e4 : (t.o.toList == (⟨#[66, 65, 78, 75]⟩ : ByteArray).toList) = false := by rw [beq_eq_false_iff_ne]; exact fun e => hq (toList_inj e)
                  clear hq
                  by_cases hq : t.p = bankS
                  · have He5 := Lib.hid hq
                    have q1e5 : (t.p.toList == [66, 65, 78, 75]) = true := by rw [hq, bank_list]; simp
                    have q2e5 : (t.p.toList != [66, 65, 78, 75]) = false := by rw [hq, bank_list]; simp
                    have q3e5 : (t.p.toList == (⟨#[66, 65, 78, 75]⟩ : ByteArray).toList) = true := by rw [hq]; exact beq_self_eq_true bankS.toList
                    clear hq
                    have hE : E = 1 := by
                      rw [← HE0.out]
                      have PX : chkP st t = 1 := by
                        unfold chkP; rw [HZW2.out, HZW3.out]
                        rw [if_neg (by rw [Hb1.out]; decide), if_neg (by rw [Hb2.out]; decide), if_neg (by rw [Hb3.out]; decide), if_neg (by rw [Hb4.out]; decide), if_neg (fun h => h He1.out), if_neg (fun h => h He2.out), if_neg He3.out, if_neg He4.out, if_pos He5.out]
                      unfold chkC
                      rw [PX]
                      exact if_pos (by decide)
                    go_wp2
                    go_ret
                    exact ⟨by rw [hE]; rfl, HB6.out⟩
                  · have He5 := Lib.hid hq
                    have q1e5 : (t.p.toList == [66, 65, 78, 75]) = false := by rw [beq_eq_false_iff_ne]; exact fun e => hq (toList_inj (e.trans bank_list.symm))
                    have q2e5 : (t.p.toList != [66, 65, 78, 75]) = true := by rw [bne_iff_ne]; exact fun e => hq (toList_inj (e.trans bank_list.symm))
                    have q3e5 : (t.p.toList == (⟨#[66, 65, 78, 75]⟩ : ByteArray).toList) = false := by rw [beq_eq_false_iff_ne]; exact fun e => hq (toList_inj e)
                    clear hq
                    have HP0 : Hid (chkP st t = 0) := by
                      show _ = _
                      unfold chkP; rw [HZW2.out, HZW3.out]; rw [if_neg (by rw [Hb1.out]; decide), if_neg (by rw [Hb2.out]; decide), if_neg (by rw [Hb3.out]; decide), if_neg (by rw [Hb4.out]; decide), if_neg (fun h => h He1.out), if_neg (fun h => h He2.out), if_neg He3.out, if_neg He4.out, if_neg He5.out]
                    have y8 : W6.cell? ⟨c3, 8, none⟩ = some (.int .i64 t.q) := by rw [Lib.cell_of_heap HY6.out]; rfl
                    have y9 : W6.cell? ⟨c3, 9, none⟩ = some (.int .i64 t.am) := by rw [Lib.cell_of_heap HY6.out]; rfl
                    obtain ⟨ca, hca⟩ : ∃ b, zW5.cash = b := ⟨_, rfl⟩
                    obtain ⟨cc, hcc⟩ : ∃ b, zW6.cash = b := ⟨_, rfl⟩
                    have HCA := Lib.hid hca
                    have HCC := Lib.hid hcc
                    have r51 : W6.cell? ⟨uW5.heap.size, 1, none⟩ = some (.bool ca) := by rw [Lib.cell_of_heap HRW5.out, ← hca]; rfl
                    have r53 : W6.cell? ⟨uW5.heap.size, 3, none⟩ = some (.int .i64 zW5.unit) := by rw [Lib.cell_of_heap HRW5.out]; rfl
                    have r54 : W6.cell? ⟨uW5.heap.size, 4, none⟩ = some (.int .i64 zW5.least) := by rw [Lib.cell_of_heap HRW5.out]; rfl
                    have r61 : W6.cell? ⟨uW6.heap.size, 1, none⟩ = some (.bool cc) := by rw [Lib.cell_of_heap HRW6.out, ← hcc]; rfl
                    clear hca hcc
                    cases b5
                    · have hE : E = 7 := by
                        rw [← HE0.out]
                        have GX : chkG st t = 7 := by
                          unfold chkG; rw [HZW5.out, HZW6.out]; rw [if_pos Hb5.out]
                        unfold chkC
                        rw [if_neg (fun h => h HP0.out), GX]
                        exact if_pos (by decide)
                      go_wp2
                      go_ret
                      exact ⟨by rw [hE]; rfl, HB6.out⟩
                    · cases b6
                      · have hE : E = 7 := by
                          rw [← HE0.out]
                          have GX : chkG st t = 7 := by
                            unfold chkG; rw [HZW5.out, HZW6.out]; rw [if_neg (by rw [Hb5.out]; decide), if_pos Hb6.out]
                          unfold chkC
                          rw [if_neg (fun h => h HP0.out), GX]
                          exact if_pos (by decide)
                        go_wp2
                        go_ret
                        exact ⟨by rw [hE]; rfl, HB6.out⟩
                      · cases ca
                        · cases cc
                          · have hE : E = 1 := by
                              rw [← HE0.out]
                              have GX : chkG st t = 1 := by
                                unfold chkG; rw [HZW5.out, HZW6.out]; rw [if_neg (by rw [Hb5.out]; decide), if_neg (by rw [Hb6.out]; decide), if_neg (by rw [HCA.out]; decide), if_pos HCC.out]
                              unfold chkC
                              rw [if_neg (fun h => h HP0.out), GX]
                              exact if_pos (by decide)
                            go_wp2
                            go_ret
                            exact ⟨by rw [hE]; rfl, HB6.out⟩
                          · by_cases hc : t.q < zW5.least
                            · have dq1 : decide (t.q < zW5.least) = true := decide_eq_true hc
                              have Hq1 : Hid (t.q < zW5.least) := hc
                              clear hc
                              have hE : E = 33 := by
                                rw [← HE0.out]
                                have GX : chkG st t = 33 := by
                                  unfold chkG; rw [HZW5.out, HZW6.out]; rw [if_neg (by rw [Hb5.out]; decide), if_neg (by rw [Hb6.out]; decide), if_neg (by rw [HCA.out]; decide), if_neg (by rw [HCC.out]; decide), if_pos Hq1.out]
                                unfold chkC
                                rw [if_neg (fun h => h HP0.out), GX]
                                exact if_pos (by decide)
                              go_wp2
                              go_ret
                              exact ⟨by rw [hE]; rfl, HB6.out⟩
                            · have dq1 : decide (t.q < zW5.least) = false := decide_eq_false hc
                              have Hq1 : Hid (¬ t.q < zW5.least) := hc
                              clear hc
                              by_cases hc : 1099511627776 < t.q
                              · have dq2 : decide (t.q > 1099511627776) = true := decide_eq_true hc
                                have Hq2 : Hid (1099511627776 < t.q) := hc
                                clear hc
                                have hE : E = 33 := by
                                  rw [← HE0.out]
                                  have GX : chkG st t = 33 := by
                                    unfold chkG; rw [HZW5.out, HZW6.out]; rw [if_neg (by rw [Hb5.out]; decide), if_neg (by rw [Hb6.out]; decide), if_neg (by rw [HCA.out]; decide), if_neg (by rw [HCC.out]; decide), if_neg (by have := Hq1.out; omega), if_pos Hq2.out]
                                  unfold chkC
                                  rw [if_neg (fun h => h HP0.out), GX]
                                  exact if_pos (by decide)
                                go_wp2
                                go_ret
                                exact ⟨by rw [hE]; rfl, HB6.out⟩
                              · have dq2 : decide (t.q > 1099511627776) = false := decide_eq_false hc
                                have Hq2 : Hid (¬ 1099511627776 < t.q) := hc
                                clear hc
                                have hU1 := HU.out t.s Hb5.out
                                rw [HZW5.out] at hU1
                                obtain ⟨hu1, hu2, hu3, hu4⟩ := hU1
                                have hq5 : zW5.least ≤ t.q := by have := Hq1.out; omega
                                by_cases h3 : t.q % zW5.unit = 0
                                · have h3b : (t.q % zW5.unit == 0) = true := by simp [h3]
                                  have h3c : (t.q % zW5.unit != 0) = false := by simp [h3]
                                  have HR3 := Lib.hid h3
                                  clear h3
                                  by_cases hc : t.am < 0
                                  · have dm1 : decide (t.am < 0) = true := decide_eq_true hc
                                    have Hm1 : Hid (t.am < 0) := hc
                                    clear hc
                                    have hE : E = 1 := by
                                      rw [← HE0.out]
                                      have GX : chkG st t = 1 := by
                                        unfold chkG; rw [HZW5.out, HZW6.out]; rw [if_neg (by rw [Hb5.out]; decide), if_neg (by rw [Hb6.out]; decide), if_neg (by rw [HCA.out]; decide), if_neg (by rw [HCC.out]; decide), if_neg (by have := Hq1.out; omega), if_neg (by have := Hq2.out; omega), if_neg (fun h => h HR3.out), if_pos Hm1.out]
                                      unfold chkC
                                      rw [if_neg (fun h => h HP0.out), GX]
                                      exact if_pos (by decide)
                                    go_wp2
                                    go_ret
                                    exact ⟨by rw [hE]; rfl, HB6.out⟩
                                  · have dm1 : decide (t.am < 0) = false := decide_eq_false hc
                                    have Hm1 : Hid (¬ t.am < 0) := hc
                                    clear hc
                                    by_cases hc : 1125899906842624 < t.am
                                    · have dm2 : decide (t.am > 1125899906842624) = true := decide_eq_true hc
                                      have Hm2 : Hid (1125899906842624 < t.am) := hc
                                      clear hc
                                      have hE : E = 1 := by
                                        rw [← HE0.out]
                                        have GX : chkG st t = 1 := by
                                          unfold chkG; rw [HZW5.out, HZW6.out]; rw [if_neg (by rw [Hb5.out]; decide), if_neg (by rw [Hb6.out]; decide), if_neg (by rw [HCA.out]; decide), if_neg (by rw [HCC.out]; decide), if_neg (by have := Hq1.out; omega), if_neg (by have := Hq2.out; omega), if_neg (fun h => h HR3.out), if_neg (by have := Hm1.out; omega), if_pos Hm2.out]
                                        unfold chkC
                                        rw [if_neg (fun h => h HP0.out), GX]
                                        exact if_pos (by decide)
                                      go_wp2
                                      go_ret
                                      exact ⟨by rw [hE]; rfl, HB6.out⟩
                                    · have dm2 : decide (t.am > 1125899906842624) = false := decide_eq_false hc
                                      have Hm2 : Hid (¬ 1125899906842624 < t.am) := hc
                                      clear hc
                                      have HG0 : Hid (chkG st t = 0) := by
                                        show _ = _
                                        unfold chkG; rw [HZW5.out, HZW6.out]; rw [if_neg (by rw [Hb5.out]; decide), if_neg (by rw [Hb6.out]; decide), if_neg (by rw [HCA.out]; decide), if_neg (by rw [HCC.out]; decide), if_neg (by have := Hq1.out; omega), if_neg (by have := Hq2.out; omega), if_neg (fun h => h HR3.out), if_neg (by have := Hm1.out; omega), if_neg (by have := Hm2.out; omega)]
                                      have hk6 := HK.out.below HB6.out
                                      have hxl6 := hk6.lt
                                      obtain ⟨vl, _, _, _, g1, ⟨Al, cl, rfl, _, hRl, _⟩, _⟩ := hk6
                                      have yx : W6.cell? ⟨x, 0, none⟩ = some (.slice Al sx.l.length cl) := by rw [Lib.cell_of_heap g1]; rfl
                                      have y10 : W6.cell? ⟨c3, 10, none⟩ = some (.int .i64 t.dy) := by rw [Lib.cell_of_heap HY6.out]; rfl
                                      have y11 : W6.cell? ⟨c3, 11, none⟩ = some (.int .i64 t.td) := by rw [Lib.cell_of_heap HY6.out]; rfl
                                      have y7 : W6.cell? ⟨c3, 7, none⟩ = some (.string t.r) := by rw [Lib.cell_of_heap HY6.out]; rfl
                                      obtain ⟨bb, hbb⟩ : ∃ b, isB st.h t.dy = b := ⟨_, rfl⟩
                                      have HBB := Lib.hid hbb
                                      have VIS : Hid (∀ q, Calls Try.prog 74 #[.pointer (some ⟨x, 0, none⟩), .int .i64 t.dy] (W6.drewN q) fun e w' => e = .returned (.bool bb) ∧ w' = W6.drewN q) := fun q => by
                                        have h9 := is8_any x sx.l Al sx.l.length cl W6.heap.size t.dy (W6.drewN q) rfl yx (hRl.drewN q) (by omega)
                                        rw [HI.out, hbb] at h9
                                        exact h9.mono fun e w' hh => ⟨hh.1, hh.2.symm⟩
                                      clear g1 hRl hbb
                                      by_cases hc : t.dy < today
                                      · have dd1 : decide (t.dy < today) = true := decide_eq_true hc
                                        have Hd1 : Hid (t.dy < today) := hc
                                        clear hc
                                        have hE : E = 17 := by
                                          rw [← HE0.out]
                                          unfold chkC
                                          rw [if_neg (fun h => h HP0.out), if_neg (fun h => h HG0.out), if_pos Hd1.out]
                                        go_wp2
                                        go_quiet (fail)
                                        go_wp2
                                        go_ret
                                        exact ⟨by first | rfl | (rw [hE]; rfl), drewN_below HB6.out _⟩
                                      · have dd1 : decide (t.dy < today) = false := decide_eq_false hc
                                        have Hd1 : Hid (¬ t.dy < today) := hc
                                        clear hc
                                        cases bb
                                        · have hE : E = 17 := by
                                            rw [← HE0.out]
                                            unfold chkC
                                            rw [if_neg (fun h => h HP0.out), if_neg (fun h => h HG0.out), if_neg (by have := Hd1.out; omega), if_pos HBB.out]
                                          go_wp2
                                          go_quiet (first | (go_at_call 74; exact Calls.quiet_of_same (VIS.out _)))
                                          go_wp2
                                          go_ret
                                          exact ⟨by first | rfl | (rw [hE]; rfl), drewN_below HB6.out _⟩
                                        · by_cases hc : t.td < 0
                                          · have dd2 : decide (t.td < 0) = true := decide_eq_true hc
                                            have Hd2 : Hid (t.td < 0) := hc
                                            clear hc
                                            have hE : E = 17 := by
                                              rw [← HE0.out]
                                              unfold chkC
                                              rw [if_neg (fun h => h HP0.out), if_neg (fun h => h HG0.out), if_neg (by have := Hd1.out; omega), if_neg (by rw [HBB.out]; decide), if_pos Hd2.out]
                                            go_wp2
                                            go_quiet (first | (go_at_call 74; exact Calls.quiet_of_same (VIS.out _)))
                                            go_wp2
                                            go_ret
                                            exact ⟨by first | rfl | (rw [hE]; rfl), drewN_below HB6.out _⟩
                                          · have dd2 : decide (t.td < 0) = false := decide_eq_false hc
                                            have Hd2 : Hid (¬ t.td < 0) := hc
                                            clear hc
                                            by_cases hc : t.dy < t.td
                                            · have dd3 : decide (t.td > t.dy) = true := decide_eq_true hc
                                              have Hd3 : Hid (t.dy < t.td) := hc
                                              clear hc
                                              have hE : E = 17 := by
                                                rw [← HE0.out]
                                                unfold chkC
                                                rw [if_neg (fun h => h HP0.out), if_neg (fun h => h HG0.out), if_neg (by have := Hd1.out; omega), if_neg (by rw [HBB.out]; decide), if_neg (by have := Hd2.out; omega), if_pos Hd3.out]
                                              go_wp2
                                              go_quiet (first | (go_at_call 74; exact Calls.quiet_of_same (VIS.out _)))
                                              go_wp2
                                              go_ret
                                              exact ⟨by first | rfl | (rw [hE]; rfl), drewN_below HB6.out _⟩
                                            · have dd3 : decide (t.td > t.dy) = false := decide_eq_false hc
                                              have Hd3 : Hid (¬ t.dy < t.td) := hc
                                              clear hc
                                              by_cases hr2 : 20 < t.r.size
                                              · have drd : decide ((t.r.size : Int) > 20) = true := decide_eq_true (by omega)
                                                have hE : E = 2 := by
                                                  rw [← HE0.out]
                                                  unfold chkC
                                                  rw [if_neg (fun h => h HP0.out), if_neg (fun h => h HG0.out), if_neg (by have := Hd1.out; omega), if_neg (by rw [HBB.out]; decide), if_neg (by have := Hd2.out; omega), if_neg (by have := Hd3.out; omega), if_pos hr2]
                                                go_wp2
                                                go_quiet (first | (go_at_call 74; exact Calls.quiet_of_same (VIS.out _)))
                                                go_wp2
                                                go_ret
                                                exact ⟨by first | rfl | (rw [hE]; rfl), drewN_below HB6.out _⟩
                                              · have drd : decide ((t.r.size : Int) > 20) = false := decide_eq_false (by omega)
                                                have hE : E = 0 := by
                                                  rw [← HE0.out]
                                                  unfold chkC
                                                  rw [if_neg (fun h => h HP0.out), if_neg (fun h => h HG0.out), if_neg (by have := Hd1.out; omega), if_neg (by rw [HBB.out]; decide), if_neg (by have := Hd2.out; omega), if_neg (by have := Hd3.out; omega), if_neg hr2]
                                                go_wp2
                                                go_quiet (first | (go_at_call 74; exact Calls.quiet_of_same (VIS.out _)))
                                                go_wp2
                                                go_ret
                                                exact ⟨by first | rfl | (rw [hE]; rfl), drewN_below HB6.out _⟩
                                · have h3b : (t.q % zW5.unit == 0) = false := by simp [h3]
                                  have h3c : (t.q % zW5.unit != 0) = true := by simp [h3]
                                  have HR3 := Lib.hid h3
                                  clear h3
                                  have hE : E = 33 := by
                                    rw [← HE0.out]
                                    have GX : chkG st t = 33 := by
                                      unfold chkG; rw [HZW5.out, HZW6.out]; rw [if_neg (by rw [Hb5.out]; decide), if_neg (by rw [Hb6.out]; decide), if_neg (by rw [HCA.out]; decide), if_neg (by rw [HCC.out]; decide), if_neg (by have := Hq1.out; omega), if_neg (by have := Hq2.out; omega), if_pos HR3.out]
                                    unfold chkC
                                    rw [if_neg (fun h => h HP0.out), GX]
                                    exact if_pos (by decide)
                                  go_wp2
                                  go_ret
                                  exact ⟨by rw [hE]; rfl, HB6.out⟩
                        · have hE : E = 1 := by
                            rw [← HE0.out]
                            have GX : chkG st t = 1 := by
                              unfold chkG; rw [HZW5.out, HZW6.out]; rw [if_neg (by rw [Hb5.out]; decide), if_neg (by rw [Hb6.out]; decide), if_pos HCA.out]
                            unfold chkC
                            rw [if_neg (fun h => h HP0.out), GX]
                            exact if_pos (by decide)
                          go_wp2
                          go_ret
                          exact ⟨by rw [hE]; rfl, HB6.out⟩
            · have He2 := Lib.hid hq
              have q1e2 : (zW3.party.toList == t.p.toList) = false := by rw [beq_eq_false_iff_ne]; exact fun e => hq (toList_inj e)
              have q2e2 : (zW3.party.toList != t.p.toList) = true := by rw [bne_iff_ne]; exact fun e => hq (toList_inj e)
              clear hq
              have hE : E = 22 := by
                rw [← HE0.out]
                have PX : chkP st t = 22 := by
                  unfold chkP; rw [HZW2.out, HZW3.out]
                  rw [if_neg (by rw [Hb1.out]; decide), if_neg (by rw [Hb2.out]; decide), if_neg (by rw [Hb3.out]; decide), if_neg (by rw [Hb4.out]; decide), if_neg (fun h => h He1.out), if_pos He2.out]
                unfold chkC
                rw [PX]
                exact if_pos (by decide)
              go_wp2
              go_ret
              exact ⟨by rw [hE]; rfl, HB6.out⟩
          · have He1 := Lib.hid hq
            have q1e1 : (zW2.party.toList == t.p.toList) = false := by rw [beq_eq_false_iff_ne]; exact fun e => hq (toList_inj e)
            have q2e1 : (zW2.party.toList != t.p.toList) = true := by rw [bne_iff_ne]; exact fun e => hq (toList_inj e)
            clear hq
            have hE : E = 22 := by
              rw [← HE0.out]
              have PX : chkP st t = 22 := by
                unfold chkP; rw [HZW2.out, HZW3.out]
                rw [if_neg (by rw [Hb1.out]; decide), if_neg (by rw [Hb2.out]; decide), if_neg (by rw [Hb3.out]; decide), if_neg (by rw [Hb4.out]; decide), if_pos He1.out]
              unfold chkC
              rw [PX]
              exact if_pos (by decide)
            go_wp2
            go_ret
            exact ⟨by rw [hE]; rfl, HB6.out⟩
end Go.Proofs.Ytkcecijepbceiaa
