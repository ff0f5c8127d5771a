/-
  What is wrong with a term's parties (inst.parties) as a contract.
  Conditions: the caller's memory stays.
-/
import Derived.Test.YtkcecijepbceiaaChkPlain
import Derived.Test.YtkcecijepbceiaaR8a
import Derived.Test.YtkcecijepbceiaaRef4S
namespace Go.Proofs.Ytkcecijepbceiaa
open Go.RowKit Go.Maps Go.Shelf
attribute [local go_sem ↓] Go.wp_at_zero Go.wp_at_succ
set_option maxRecDepth 100000

theorem bank_list : bankS.toList = [66, 65, 78, 75] := by rw [ByteArray.toList_eq]; rfl
set_option maxHeartbeats 16000000 in
theorem parties_any (r : Nat) (st : Rf) (hok : st.Ok) (t : Trm) (ht : t.Fits) (w : World) (h : RefAt r st w) :
    Calls Try.prog 67 #[.pointer (some ⟨r, 0, none⟩), .agg #[.string t.p, .string t.a, .string t.m, .string t.o, .bool t.dl, .string t.s, .string t.c, .string t.r, .int .i64 t.q, .int .i64 t.am, .int .i64 t.dy, .int .i64 t.td]] w fun e w' => e = .returned (.int .i64 (chkP st t)) ∧ Below w.heap.size w w' := by
  obtain ⟨E, hE0⟩ : ∃ E, chkP st t = E := ⟨_, rfl⟩
  have HE0 := Lib.hid hE0
  rw [hE0]
  clear hE0
  have HK := Lib.hid h
  have hrl := h.lt
  obtain ⟨c3, HC3⟩ : ∃ c3, Hid (w.heap.size = c3) := ⟨_, rfl⟩
  obtain ⟨W0, HW0⟩ : ∃ W0, Hid (w.alloc (.cells #[.string t.p, .string t.a, .string t.m, .string t.o, .bool t.dl, .string t.s, .string t.c, .string t.r, .int .i64 t.q, .int .i64 t.am, .int .i64 t.dy, .int .i64 t.td] 23) = W0) := ⟨_, rfl⟩
  have HB0 : Hid (Below w.heap.size w W0) := by show Below _ _ _; rw [← HW0.out]; exact (Below.refl _ _).alloc (Nat.le_refl _) _
  have HY0 : Hid (W0.heap[c3]? = some (.cells #[.string t.p, .string t.a, .string t.m, .string t.o, .bool t.dl, .string t.s, .string t.c, .string t.r, .int .i64 t.q, .int .i64 t.am, .int .i64 t.dy, .int .i64 t.td] 23 (0, 0))) := by show _ = _; rw [← HW0.out, ← HC3.out]; exact heap_alloc_new _ _
  have hzW0 : c3 < W0.heap.size := by rw [← HW0.out, ← HC3.out]; simp
  clear h
  go_enter Try.func67, Try.ntmps67
  have qW1 := getP_any r st hok.gp t.p (ht.texts _ (by simp [Trm.texts])) W0 (HK.out.below HB0.out)
  obtain ⟨zW1, hzW1⟩ : ∃ z, recAt Party st.p t.p = z := ⟨_, rfl⟩
  obtain ⟨b1, hb1⟩ : ∃ b, hasS st.p t.p = b := ⟨_, rfl⟩
  rw [hzW1, hb1] at qW1
  have QW1 : Hid (Calls Try.prog 107 #[.pointer (some ⟨r, 0, none⟩), .string t.p] W0 fun e w' => e = .returned (.tuple #[.agg #[.string zW1.name, .int .i64 zW1.limit], .bool b1]) ∧ Below W0.heap.size W0 w') := qW1
  have Hb1 := Lib.hid hb1
  have HZW1 := Lib.hid hzW1
  clear qW1 hzW1 hb1
  have y0 : W0.cell? ⟨c3, 0, none⟩ = some (.string t.p) := by rw [Lib.cell_of_heap HY0.out]; rfl
  go_wp2_with fail
  rw [HW0.out, HC3.out]
  refine QW1.out.mono ?_
  rintro e uW1 ⟨rfl, hbW1⟩
  obtain ⟨W1, HW1⟩ : ∃ W, Hid (uW1.alloc (.cells #[.string zW1.name, .int .i64 zW1.limit] 130) = W) := ⟨_, rfl⟩
  have hbbW1 : Below W0.heap.size W0 W1 := by rw [← HW1.out]; exact hbW1.alloc hbW1.size _
  have HRW1 : Hid (W1.heap[uW1.heap.size]? = some (.cells #[.string zW1.name, .int .i64 zW1.limit] 130 (0, 0))) := by show _ = _; rw [← HW1.out]; exact heap_alloc_new _ _
  have hlW1 : uW1.heap.size < W1.heap.size := by rw [← HW1.out]; simp
  have HB1 : Hid (Below w.heap.size w W1) := HB0.out.trans (hbbW1.mono HB0.out.size)
  have HY1 := Lib.hid ((hbbW1.block c3 hzW0).trans HY0.out)
  have hzW1 : c3 < W1.heap.size := Nat.lt_of_lt_of_le hzW0 hbbW1.size
  clear hbW1 hbbW1 QW1 y0
  have qW2 := getC_any r st hok.ga t.a (ht.texts _ (by simp [Trm.texts])) W1 (HK.out.below HB1.out)
  obtain ⟨zW2, hzW2⟩ : ∃ z, recAt Account st.a t.a = z := ⟨_, rfl⟩
  obtain ⟨b2, hb2⟩ : ∃ b, hasS st.a t.a = b := ⟨_, rfl⟩
  rw [hzW2, hb2] at qW2
  have QW2 : Hid (Calls Try.prog 108 #[.pointer (some ⟨r, 0, none⟩), .string t.a] W1 fun e w' => e = .returned (.tuple #[.agg #[.string zW2.name, .string zW2.party], .bool b2]) ∧ Below W1.heap.size W1 w') := qW2
  have Hb2 := Lib.hid hb2
  have HZW2 := Lib.hid hzW2
  clear qW2 hzW2 hb2
  have y0 : W1.cell? ⟨c3, 1, none⟩ = some (.string t.a) := by rw [Lib.cell_of_heap HY1.out]; rfl
  have hWo := HW1.out
  go_wp2_with fail
  clear hWo
  refine QW2.out.mono ?_
  rintro e uW2 ⟨rfl, hbW2⟩
  obtain ⟨W2, HW2⟩ : ∃ W, Hid (uW2.alloc (.cells #[.string zW2.name, .string zW2.party] 134) = W) := ⟨_, rfl⟩
  have hbbW2 : Below W1.heap.size W1 W2 := by rw [← HW2.out]; exact hbW2.alloc hbW2.size _
  have HRW2 : Hid (W2.heap[uW2.heap.size]? = some (.cells #[.string zW2.name, .string zW2.party] 134 (0, 0))) := by show _ = _; rw [← HW2.out]; exact heap_alloc_new _ _
  have hlW2 : uW2.heap.size < W2.heap.size := by rw [← HW2.out]; simp
  have HB2 : Hid (Below w.heap.size w W2) := HB1.out.trans (hbbW2.mono HB1.out.size)
  have HY2 := Lib.hid ((hbbW2.block c3 hzW1).trans HY1.out)
  have hzW2 : c3 < W2.heap.size := Nat.lt_of_lt_of_le hzW1 hbbW2.size
  replace HRW1 := Lib.hid ((hbbW2.block _ hlW1).trans HRW1.out)
  replace hlW1 : uW1.heap.size < W2.heap.size := Nat.lt_of_lt_of_le hlW1 hbbW2.size
  clear hbW2 hbbW2 QW2 y0
  have qW3 := getC_any r st hok.ga t.m (ht.texts _ (by simp [Trm.texts])) W2 (HK.out.below HB2.out)
  obtain ⟨zW3, hzW3⟩ : ∃ z, recAt Account st.a t.m = z := ⟨_, rfl⟩
  obtain ⟨b3, hb3⟩ : ∃ b, hasS st.a t.m = b := ⟨_, rfl⟩
  rw [hzW3, hb3] at qW3
  have QW3 : Hid (Calls Try.prog 108 #[.pointer (some ⟨r, 0, none⟩), .string t.m] W2 fun e w' => e = .returned (.tuple #[.agg #[.string zW3.name, .string zW3.party], .bool b3]) ∧ Below W2.heap.size W2 w') := qW3
  have Hb3 := Lib.hid hb3
  have HZW3 := Lib.hid hzW3
  clear qW3 hzW3 hb3
  have y0 : W2.cell? ⟨c3, 2, none⟩ = some (.string t.m) := by rw [Lib.cell_of_heap HY2.out]; rfl
  have hWo := HW2.out
  go_wp2_with fail
  clear hWo
  refine QW3.out.mono ?_
  rintro e uW3 ⟨rfl, hbW3⟩
  obtain ⟨W3, HW3⟩ : ∃ W, Hid (uW3.alloc (.cells #[.string zW3.name, .string zW3.party] 134) = W) := ⟨_, rfl⟩
  have hbbW3 : Below W2.heap.size W2 W3 := by rw [← HW3.out]; exact hbW3.alloc hbW3.size _
  have HRW3 : Hid (W3.heap[uW3.heap.size]? = some (.cells #[.string zW3.name, .string zW3.party] 134 (0, 0))) := by show _ = _; rw [← HW3.out]; exact heap_alloc_new _ _
  have hlW3 : uW3.heap.size < W3.heap.size := by rw [← HW3.out]; simp
  have HB3 : Hid (Below w.heap.size w W3) := HB2.out.trans (hbbW3.mono HB2.out.size)
  have HY3 := Lib.hid ((hbbW3.block c3 hzW2).trans HY2.out)
  have hzW3 : c3 < W3.heap.size := Nat.lt_of_lt_of_le hzW2 hbbW3.size
  replace HRW2 := Lib.hid ((hbbW3.block _ hlW2).trans HRW2.out)
  replace hlW2 : uW2.heap.size < W3.heap.size := Nat.lt_of_lt_of_le hlW2 hbbW3.size
  clear hbW3 hbbW3 QW3 y0
  have qW4 := getP_any r st hok.gp t.o (ht.texts _ (by simp [Trm.texts])) W3 (HK.out.below HB3.out)
  obtain ⟨zW4, hzW4⟩ : ∃ z, recAt Party st.p t.o = z := ⟨_, rfl⟩
  obtain ⟨b4, hb4⟩ : ∃ b, hasS st.p t.o = b := ⟨_, rfl⟩
  rw [hzW4, hb4] at qW4
  have QW4 : Hid (Calls Try.prog 107 #[.pointer (some ⟨r, 0, none⟩), .string t.o] W3 fun e w' => e = .returned (.tuple #[.agg #[.string zW4.name, .int .i64 zW4.limit], .bool b4]) ∧ Below W3.heap.size W3 w') := qW4
  have Hb4 := Lib.hid hb4
  have HZW4 := Lib.hid hzW4
  clear qW4 hzW4 hb4
  have y0 : W3.cell? ⟨c3, 3, none⟩ = some (.string t.o) := by rw [Lib.cell_of_heap HY3.out]; rfl
  have hWo := HW3.out
  go_wp2_with fail
  clear hWo
  refine QW4.out.mono ?_
  rintro e uW4 ⟨rfl, hbW4⟩
  obtain ⟨W4, HW4⟩ : ∃ W, Hid (uW4.alloc (.cells #[.string zW4.name, .int .i64 zW4.limit] 130) = W) := ⟨_, rfl⟩
  have hbbW4 : Below W3.heap.size W3 W4 := by rw [← HW4.out]; exact hbW4.alloc hbW4.size _
  have HRW4 : Hid (W4.heap[uW4.heap.size]? = some (.cells #[.string zW4.name, .int .i64 zW4.limit] 130 (0, 0))) := by show _ = _; rw [← HW4.out]; exact heap_alloc_new _ _
  have hlW4 : uW4.heap.size < W4.heap.size := by rw [← HW4.out]; simp
  have HB4 : Hid (Below w.heap.size w W4) := HB3.out.trans (hbbW4.mono HB3.out.size)
  have HY4 := Lib.hid ((hbbW4.block c3 hzW3).trans HY3.out)
  have hzW4 : c3 < W4.heap.size := Nat.lt_of_lt_of_le hzW3 hbbW4.size
  replace HRW2 := Lib.hid ((hbbW4.block _ hlW2).trans HRW2.out)
  replace hlW2 : uW2.heap.size < W4.heap.size := Nat.lt_of_lt_of_le hlW2 hbbW4.size
  replace HRW3 := Lib.hid ((hbbW4.block _ hlW3).trans HRW3.out)
  replace hlW3 : uW3.heap.size < W4.heap.size := Nat.lt_of_lt_of_le hlW3 hbbW4.size
  clear hbW4 hbbW4 QW4 y0
  have y0 : W4.cell? ⟨c3, 0, none⟩ = some (.string t.p) := by rw [Lib.cell_of_heap HY4.out]; rfl
  have y3 : W4.cell? ⟨c3, 3, none⟩ = some (.string t.o) := by rw [Lib.cell_of_heap HY4.out]; rfl
  have r2 : W4.cell? ⟨uW2.heap.size, 1, none⟩ = some (.string zW2.party) := by rw [Lib.cell_of_heap HRW2.out]; rfl
  have r3 : W4.cell? ⟨uW3.heap.size, 1, none⟩ = some (.string zW3.party) := by rw [Lib.cell_of_heap HRW3.out]; rfl
  have hWo := HW4.out
  cases b1
  · have hE : E = 7 := by
      rw [← HE0.out]
      unfold chkP; rw [HZW2.out, HZW3.out]; rw [if_pos Hb1.out]
    go_wp2
    go_ret
    exact ⟨by rw [hE]; rfl, HB4.out⟩
  · cases b2
    · have hE : E = 7 := by
        rw [← HE0.out]
        unfold chkP; rw [HZW2.out, HZW3.out]; rw [if_neg (by rw [Hb1.out]; decide), if_pos Hb2.out]
      go_wp2
      go_ret
      exact ⟨by rw [hE]; rfl, HB4.out⟩
    · cases b3
      · have hE : E = 7 := by
          rw [← HE0.out]
          unfold chkP; rw [HZW2.out, HZW3.out]; rw [if_neg (by rw [Hb1.out]; decide), if_neg (by rw [Hb2.out]; decide), if_pos Hb3.out]
        go_wp2
        go_ret
        exact ⟨by rw [hE]; rfl, HB4.out⟩
      · cases b4
        · have hE : E = 7 := by
            rw [← HE0.out]
            unfold chkP; rw [HZW2.out, HZW3.out]; rw [if_neg (by rw [Hb1.out]; decide), if_neg (by rw [Hb2.out]; decide), if_neg (by rw [Hb3.out]; decide), if_pos Hb4.out]
          go_wp2
          go_ret
          exact ⟨by rw [hE]; rfl, HB4.out⟩
        · by_cases hq : zW2.party = t.p
          · have He1 := Lib.hid hq
            have q1e1 : (zW2.party.toList == t.p.toList) = true := by rw [hq]; simp
            have q2e1 : (zW2.party.toList != t.p.toList) = false := by rw [hq]; simp
            clear hq
            by_cases hq : zW3.party = t.p
            · have He2 := Lib.hid hq
              have q1e2 : (zW3.party.toList == t.p.toList) = true := by rw [hq]; simp
              have q2e2 : (zW3.party.toList != t.p.toList) = false := by rw [hq]; simp
              clear hq
              by_cases hq : t.o = t.p
              · have He3 := Lib.hid hq
                have q1e3 : (t.o.toList == t.p.toList) = true := by rw [hq]; simp
                have q2e3 : (t.o.toList != t.p.toList) = false := by rw [hq]; simp
                clear hq
                have hE : E = 1 := by
                  rw [← HE0.out]
                  unfold chkP; rw [HZW2.out, HZW3.out]; rw [if_neg (by rw [Hb1.out]; decide), if_neg (by rw [Hb2.out]; decide), if_neg (by rw [Hb3.out]; decide), if_neg (by rw [Hb4.out]; decide), if_neg (fun h => h He1.out), if_neg (fun h => h He2.out), if_pos He3.out]
                go_wp2
                go_ret
                exact ⟨by rw [hE]; rfl, HB4.out⟩
              · have He3 := Lib.hid hq
                have q1e3 : (t.o.toList == t.p.toList) = false := by rw [beq_eq_false_iff_ne]; exact fun e => hq (toList_inj e)
                have q2e3 : (t.o.toList != t.p.toList) = true := by rw [bne_iff_ne]; exact fun e => hq (toList_inj e)
                clear hq
                by_cases hq : t.o = bankS
                · have He4 := Lib.hid hq
                  have q1e4 : (t.o.toList == [66, 65, 78, 75]) = true := by rw [hq, bank_list]; simp
                  have q2e4 : (t.o.toList != [66, 65, 78, 75]) = false := by rw [hq, bank_list]; simp
                  have q3e4 : (t.o.toList == (⟨#[66, 65, 78, 75]⟩ : ByteArray).toList) = true := by rw [hq]; exact beq_self_eq_true bankS.toList
                  clear hq
                  have hE : E = 1 := by
                    rw [← HE0.out]
                    unfold chkP; rw [HZW2.out, HZW3.out]; rw [if_neg (by rw [Hb1.out]; decide), if_neg (by rw [Hb2.out]; decide), if_neg (by rw [Hb3.out]; decide), if_neg (by rw [Hb4.out]; decide), if_neg (fun h => h He1.out), if_neg (fun h => h He2.out), if_neg He3.out, if_pos He4.out]
                  go_wp2
                  go_ret
                  exact ⟨by rw [hE]; rfl, HB4.out⟩
                · have He4 := Lib.hid hq
                  have q1e4 : (t.o.toList == [66, 65, 78, 75]) = false := by rw [beq_eq_false_iff_ne]; exact fun e => hq (toList_inj (e.trans bank_list.symm))
                  have q2e4 : (t.o.toList != [66, 65, 78, 75]) = true := by rw [bne_iff_ne]; exact fun e => hq (toList_inj (e.trans bank_list.symm))
                  have q3e4 : (t.o.toList == (⟨#[66, 65, 78, 75]⟩ : ByteArray).toList) = false := by rw [beq_eq_false_iff_ne]; exact fun e => hq (toList_inj e)
                  clear hq
                  by_cases hq : t.p = bankS
                  · have He5 := Lib.hid hq
                    have q1e5 : (t.p.toList == [66, 65, 78, 75]) = true := by rw [hq, bank_list]; simp
                    have q2e5 : (t.p.toList != [66, 65, 78, 75]) = false := by rw [hq, bank_list]; simp
                    have q3e5 : (t.p.toList == (⟨#[66, 65, 78, 75]⟩ : ByteArray).toList) = true := by rw [hq]; exact beq_self_eq_true bankS.toList
                    clear hq
                    have hE : E = 1 := by
                      rw [← HE0.out]
                      unfold chkP; rw [HZW2.out, HZW3.out]; rw [if_neg (by rw [Hb1.out]; decide), if_neg (by rw [Hb2.out]; decide), if_neg (by rw [Hb3.out]; decide), if_neg (by rw [Hb4.out]; decide), if_neg (fun h => h He1.out), if_neg (fun h => h He2.out), if_neg He3.out, if_neg He4.out, if_pos He5.out]
                    go_wp2
                    go_ret
                    exact ⟨by rw [hE]; rfl, HB4.out⟩
                  · have He5 := Lib.hid hq
                    have q1e5 : (t.p.toList == [66, 65, 78, 75]) = false := by rw [beq_eq_false_iff_ne]; exact fun e => hq (toList_inj (e.trans bank_list.symm))
                    have q2e5 : (t.p.toList != [66, 65, 78, 75]) = true := by rw [bne_iff_ne]; exact fun e => hq (toList_inj (e.trans bank_list.symm))
                    have q3e5 : (t.p.toList == (⟨#[66, 65, 78, 75]⟩ : ByteArray).toList) = false := by rw [beq_eq_false_iff_ne]; exact fun e => hq (toList_inj e)
                    clear hq
                    have hE : E = 0 := by
                      rw [← HE0.out]
                      unfold chkP; rw [HZW2.out, HZW3.out]; rw [if_neg (by rw [Hb1.out]; decide), if_neg (by rw [Hb2.out]; decide), if_neg (by rw [Hb3.out]; decide), if_neg (by rw [Hb4.out]; decide), if_neg (fun h => h He1.out), if_neg (fun h => h He2.out), if_neg He3.out, if_neg He4.out, if_neg He5.out]
                    go_wp2
                    go_ret
                    exact ⟨by rw [hE]; rfl, HB4.out⟩
            · have He2 := Lib.hid hq
              have q1e2 : (zW3.party.toList == t.p.toList) = false := by rw [beq_eq_false_iff_ne]; exact fun e => hq (toList_inj e)
              have q2e2 : (zW3.party.toList != t.p.toList) = true := by rw [bne_iff_ne]; exact fun e => hq (toList_inj e)
              clear hq
              have hE : E = 22 := by
                rw [← HE0.out]
                unfold chkP; rw [HZW2.out, HZW3.out]; rw [if_neg (by rw [Hb1.out]; decide), if_neg (by rw [Hb2.out]; decide), if_neg (by rw [Hb3.out]; decide), if_neg (by rw [Hb4.out]; decide), if_neg (fun h => h He1.out), if_pos He2.out]
              go_wp2
              go_ret
              exact ⟨by rw [hE]; rfl, HB4.out⟩
          · have He1 := Lib.hid hq
            have q1e1 : (zW2.party.toList == t.p.toList) = false := by rw [beq_eq_false_iff_ne]; exact fun e => hq (toList_inj e)
            have q2e1 : (zW2.party.toList != t.p.toList) = true := by rw [bne_iff_ne]; exact fun e => hq (toList_inj e)
            clear hq
            have hE : E = 22 := by
              rw [← HE0.out]
              unfold chkP; rw [HZW2.out, HZW3.out]; rw [if_neg (by rw [Hb1.out]; decide), if_neg (by rw [Hb2.out]; decide), if_neg (by rw [Hb3.out]; decide), if_neg (by rw [Hb4.out]; decide), if_pos He1.out]
            go_wp2
            go_ret
            exact ⟨by rw [hE]; rfl, HB4.out⟩
end Go.Proofs.Ytkcecijepbceiaa
