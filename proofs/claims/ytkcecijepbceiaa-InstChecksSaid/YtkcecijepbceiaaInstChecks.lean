/-
  The walk of InstChecks: every term, at every day, in the small world with those holidays.
  Conditions: the caller's memory stays.
-/
import Derived.Test.YtkcecijepbceiaaBoth
import Derived.Test.YtkcecijepbceiaaR8h
import Derived.Test.YtkcecijepbceiaaCal6
import Derived.Maps.Views
import Derived.Test.YtkcecijepbceiaaChkC
import Derived.Test.YtkcecijepbceiaaChkD
import Derived.WalkKit
import Derived.KernelRfl
import Derived.WalkSpells
import Derived.Test.YtkcecijepbceiaaInstA
import Derived.Deep.DeepCutAuto
import Derived.Deep.DrawnRows
namespace Go.Proofs.Ytkcecijepbceiaa
open Go.RowKit Go.Maps Go.Shelf
attribute [local go_sem ↓] Go.wp_at_zero Go.wp_at_succ
set_option maxRecDepth 100000

structure SameI (D : DataW Unit) (L : List Int) : Prop where
  tidy : Tidy D
  len : L.length = Maps.size D
  mem : ∀ d, hasI L d = hasD D d
theorem sameI_none : SameI (setD []) [] := ⟨tidy_setOf _ _ (by simp), rfl, fun _ => rfl⟩
theorem mem_ins8 {L : List Int} {d x : Int} : x ∈ ins8 L d ↔ x = d ∨ x ∈ L := by
  unfold ins8
  split
  · rename_i h
    constructor
    · exact .inr
    · rintro (rfl | hx)
      · exact h
      · exact hx
  · have e : L = L.takeWhile (fun z => decide (z < d)) ++ L.dropWhile (fun z => decide (z < d)) := (List.takeWhile_append_dropWhile ..).symm
    constructor
    · intro hx
      rw [List.mem_append, List.mem_append, List.mem_singleton] at hx
      rcases hx with (hx | hx) | hx
      · exact .inr (mem_takeWhile hx)
      · exact .inl hx
      · exact .inr ((List.dropWhile_sublist _).subset hx)
    · intro hx
      rw [List.mem_append, List.mem_append, List.mem_singleton]
      rcases hx with rfl | hx
      · exact .inl (.inr rfl)
      · rw [e, List.mem_append] at hx
        rcases hx with hx | hx
        · exact .inl (.inl hx)
        · exact .inr hx
theorem ins8_length (L : List Int) (d : Int) : (ins8 L d).length = if d ∈ L then L.length else L.length + 1 := by
  unfold ins8
  split
  · rfl
  · have h : (L.takeWhile (fun z => decide (z < d))).length + (L.dropWhile (fun z => decide (z < d))).length = L.length := by
      rw [← List.length_append, List.takeWhile_append_dropWhile]
    simp only [List.length_append, List.length_cons, List.length_nil]
    omega
theorem SameI.ins {D : DataW Unit} {L : List Int} (h : SameI D L) (d : Int) : SameI (D.put (.int .i64 d) (.agg [])) (ins8 L d) := by
  refine ⟨h.tidy.put (by simp [WideAt.IsKeyLit]) _, ?_, fun x => ?_⟩
  · rw [ins8_length, size_put h.tidy, h.len]
    have hm := h.mem d
    unfold hasI hasD at hm
    by_cases hd : d ∈ L
    · rw [if_pos hd, if_pos (by rw [← hm]; exact decide_eq_true hd)]
    · rw [if_neg hd, if_neg (by rw [← hm]; simpa using hd)]
  · unfold hasI
    by_cases e : x = d
    · subst e
      have h1 : hasD (D.put (.int .i64 x) (.agg [])) x = true := has_put_same h.tidy.isMap (by simp [WideAt.IsKeyLit]) _
      rw [h1]
      exact decide_eq_true (mem_ins8.2 (.inl rfl))
    · have h1 : hasD (D.put (.int .i64 d) (.agg [])) x = hasD D x := has_put_other (by intro e2; injection e2 with _ e2; exact e e2) _
      rw [h1, ← h.mem x]
      unfold hasI
      by_cases hx : x ∈ L
      · rw [decide_eq_true hx, decide_eq_true (mem_ins8.2 (.inr hx))]
      · rw [decide_eq_false hx, decide_eq_false (fun h2 => (mem_ins8.1 h2).elim e hx)]
theorem SameI.fold {l : List Int} : ∀ {D : DataW Unit} {L : List Int}, SameI D L → SameI (addD D l) (fold8 L l) := by
  induction l with
  | nil => intro D L h; exact h
  | cons d l ih => intro D L h; exact ih (h.ins d)
theorem SameI.err {D : DataW Unit} {L : List Int} (h : SameI D L) (l : List Int) : errC8 L l = errMore D l := by
  unfold errC8 errMore
  rw [h.fold.len]
  rfl
theorem SameI.out {D : DataW Unit} {L : List Int} (h : SameI D L) (l : List Int) : SameI (outD D l) (outC8 L l) := by
  unfold outD outC8
  rw [h.err l]
  split
  · exact h.fold
  · exact h
theorem SameI.is {D : DataW Unit} {L : List Int} (h : SameI D L) (d : Int) : isI L d = isB D d := by
  unfold isI isB
  rw [h.mem d]
def smallB (x : Trm) : Bool := decide ((x.p.size : Int) ≤ 900) && (decide ((x.a.size : Int) ≤ 900) && (decide ((x.m.size : Int) ≤ 900) && (decide ((x.o.size : Int) ≤ 900) && (decide ((x.s.size : Int) ≤ 900) && (decide ((x.c.size : Int) ≤ 900) && decide ((x.r.size : Int) ≤ 1100))))))
set_option maxHeartbeats 4000000 in
set_option maxRecDepth 100000 in
theorem small_any (x : Trm) (w : World) : Calls Try.prog 15 #[.agg x.cells] w fun e w' => e = .returned (.bool (smallB x)) ∧ Below w.heap.size w w' := by
  obtain ⟨p, a, m, o, dl, ss, c, r, q, am, dy, td⟩ := x
  unfold smallB
  show Calls Try.prog 15 #[.agg #[.string p, .string a, .string m, .string o, .bool dl, .string ss, .string c, .string r, .int .i64 q, .int .i64 am, .int .i64 dy, .int .i64 td]] w _
  by_cases h1 : (p.size : Int) ≤ 900
  · by_cases h2 : (a.size : Int) ≤ 900
    · by_cases h3 : (m.size : Int) ≤ 900
      · by_cases h4 : (o.size : Int) ≤ 900
        · by_cases h5 : (ss.size : Int) ≤ 900
          · by_cases h6 : (c.size : Int) ≤ 900
            · by_cases h7 : (r.size : Int) ≤ 1100
              all_goals
                go_enter Try.func15, Try.ntmps15
                go_wp2
                go_ret
                exact ⟨ret_bool (by first | rfl | (simp; done) | (simp; intros; omega)), (Below.refl _ _).alloc (Nat.le_refl _) _⟩
            · go_enter Try.func15, Try.ntmps15
              go_wp2
              go_ret
              exact ⟨ret_bool (by first | rfl | (simp; done) | (simp; intros; omega)), (Below.refl _ _).alloc (Nat.le_refl _) _⟩
          · go_enter Try.func15, Try.ntmps15
            go_wp2
            go_ret
            exact ⟨ret_bool (by first | rfl | (simp; done) | (simp; intros; omega)), (Below.refl _ _).alloc (Nat.le_refl _) _⟩
        · go_enter Try.func15, Try.ntmps15
          go_wp2
          go_ret
          exact ⟨ret_bool (by first | rfl | (simp; done) | (simp; intros; omega)), (Below.refl _ _).alloc (Nat.le_refl _) _⟩
      · go_enter Try.func15, Try.ntmps15
        go_wp2
        go_ret
        exact ⟨ret_bool (by first | rfl | (simp; done) | (simp; intros; omega)), (Below.refl _ _).alloc (Nat.le_refl _) _⟩
    · go_enter Try.func15, Try.ntmps15
      go_wp2
      go_ret
      exact ⟨ret_bool (by first | rfl | (simp; done) | (simp; intros; omega)), (Below.refl _ _).alloc (Nat.le_refl _) _⟩
  · go_enter Try.func15, Try.ntmps15
    go_wp2
    go_ret
    exact ⟨ret_bool (by first | rfl | (simp; done) | (simp; intros; omega)), (Below.refl _ _).alloc (Nat.le_refl _) _⟩
theorem size_term8 : (Try.prog.info? 23).map (·.size) = some 12 := by kernel_rfl
theorem check_nil (t : Trm) (today : Int) (w : World) : Calls Try.prog 34 #[.pointer none, .agg #[.string t.p, .string t.a, .string t.m, .string t.o, .bool t.dl, .string t.s, .string t.c, .string t.r, .int .i64 t.q, .int .i64 t.am, .int .i64 t.dy, .int .i64 t.td], .int .i64 today] w fun e w' => e = .returned (.int .i64 1) ∧ Below w.heap.size w w' := by
  go_enter Try.func34, Try.ntmps34
  go_wp2
  go_ret
  exact ⟨rfl, (Below.refl _ _).alloc (Nat.le_refl _) _⟩
theorem RefAt.turn {r c : Nat} {st : Rf} {w w' : World} {S' : List Nat} {D : DataW Unit} (h : RefAt r st w) (hc : w.cell? ⟨r, 0, none⟩ = some (.pointer (some ⟨c, 0, none⟩))) (hm : Mv [c] S' w w') (hcal : CalAt c D w') : RefAt r ⟨st.p, st.a, st.s, D⟩ w' := by
  have hx := h.lt
  obtain ⟨c', vp, va, vs, h1, hp, ha, h2, h3, h4, h5, h6⟩ := h
  have ec : c' = c := by
    rw [Lib.cell_of_heap h1] at hc
    have hc2 : some (Value.pointer (some ⟨c', 0, none⟩)) = some (Value.pointer (some ⟨c, 0, none⟩)) := hc
    injection hc2 with hc2
    injection hc2 with hc2
    injection hc2 with hc2
    injection hc2
  subst ec
  obtain ⟨q, n, g9, _⟩ := h5
  have keep : ∀ {α : Type} [Kd α] {v : Value} {D : DataW Unit}, MapAt α v D w → MapAt α v D w' := by
    intro α _ v D hm2
    rcases hm2 with h | ⟨q, h7, h8⟩
    · exact .inl h
    · exact .inr ⟨q, h7, own_keep h8 (hm.block q h8.lt (by have := blk_own_ne h8 g9; simpa using this))⟩
  exact ⟨c', vp, va, vs, (hm.block r hx (by simpa using fun e => h6 e.symm)).trans h1, hp, ha, keep h2, keep h3, keep h4, hcal, h6⟩
theorem out8_small (l : List Int) (hl : l.length ≤ 100) : (outC8 [] l).length ≤ 100 := by
  unfold outC8
  have h := fold8_len l []
  split
  · simp at h; omega
  · exact Nat.zero_le _
set_option maxHeartbeats 40000000 in
theorem ichecks_walk (ss : List Int) (A : Option Addr) (cp : Nat) (t : Trm) (ht : t.Fits) (today : Int) (w : World) (hr : Reads w w.heap.size 1 A ss.length (ints ss)) (hl : ss.length ≤ 9223372036854775807) (hv : ∀ v ∈ ss, -9223372036854775808 ≤ v ∧ v ≤ 9223372036854775807) :
    Calls Try.prog 8 #[.slice A ss.length cp, .agg #[.string t.p, .string t.a, .string t.m, .string t.o, .bool t.dl, .string t.s, .string t.c, .string t.r, .int .i64 t.q, .int .i64 t.am, .int .i64 t.dy, .int .i64 t.td], .int .i64 today] w fun e w' => e = .returned (.bool true) ∧ Below w.heap.size w w' := by
  obtain ⟨n, hn⟩ : ∃ n, ss.length = n := ⟨_, rfl⟩
  have HN := Lib.hid hn; have HR := Lib.hid hr; have HV := Lib.hid hv
  rw [hn] at hl ⊢
  clear hn hr hv
  obtain ⟨c3, HC3⟩ : ∃ c3, Hid (w.heap.size = c3) := ⟨_, rfl⟩
  obtain ⟨W0, HW0⟩ : ∃ W0, Hid (w.alloc (.cells #[.string t.p, .string t.a, .string t.m, .string t.o, .bool t.dl, .string t.s, .string t.c, .string t.r, .int .i64 t.q, .int .i64 t.am, .int .i64 t.dy, .int .i64 t.td] 23) = W0) := ⟨_, rfl⟩
  have HB0 : Hid (Below w.heap.size w W0) := by show Below _ _ _; rw [← HW0.out]; exact (Below.refl _ _).alloc (Nat.le_refl _) _
  have HY0 : Hid (W0.heap[c3]? = some (.cells #[.string t.p, .string t.a, .string t.m, .string t.o, .bool t.dl, .string t.s, .string t.c, .string t.r, .int .i64 t.q, .int .i64 t.am, .int .i64 t.dy, .int .i64 t.td] 23 (0, 0))) := by show _ = _; rw [← HW0.out, ← HC3.out]; exact heap_alloc_new _ _
  have hzW0 : c3 < W0.heap.size := by rw [← HW0.out, ← HC3.out]; simp
  have SM : Hid (Calls Try.prog 15 #[.agg #[.string t.p, .string t.a, .string t.m, .string t.o, .bool t.dl, .string t.s, .string t.c, .string t.r, .int .i64 t.q, .int .i64 t.am, .int .i64 t.dy, .int .i64 t.td]] W0 fun e w' => e = .returned (.bool (smallB t)) ∧ Below W0.heap.size W0 w') := small_any t W0
  obtain ⟨sb, hsb⟩ : ∃ b, smallB t = b := ⟨_, rfl⟩
  rw [hsb] at SM
  clear hsb
  go_enter Try.func8, Try.ntmps8
  go_wp2_with fail
  rw [HW0.out, HC3.out]
  refine SM.out.mono ?_
  rintro e w1 ⟨rfl, hb1⟩
  have HB1 : Hid (Below w.heap.size w w1) := HB0.out.trans (hb1.mono HB0.out.size)
  have HY1 := Lib.hid ((hb1.block c3 hzW0).trans HY0.out)
  have hz1 : c3 < w1.heap.size := Nat.lt_of_lt_of_le hzW0 hb1.size
  clear hb1 SM
  cases sb
  · go_wp2_with fail
    refine (alive12_any _).mono ?_
    rintro e w2 ⟨rfl, hb2⟩
    have HB2 : Hid (Below w.heap.size w w2) := HB1.out.trans (hb2.mono HB1.out.size)
    clear hb2
    go_wp2
    go_ret
    exact ⟨rfl, HB2.out⟩
  · by_cases h100 : 100 < n
    · have hd : decide ((n : Int) > 100) = true := decide_eq_true (by omega)
      clear h100
      go_wp2_with fail
      refine (alive12_any _).mono ?_
      rintro e w2 ⟨rfl, hb2⟩
      have HB2 : Hid (Below w.heap.size w w2) := HB1.out.trans (hb2.mono HB1.out.size)
      clear hb2
      go_wp2
      go_ret
      exact ⟨rfl, HB2.out⟩
    · have hd : decide ((n : Int) > 100) = false := decide_eq_false (by omega)
      go_wp2_with fail
      refine (both_any w1).mono ?_
      rintro e w2 ⟨r, x, rfl, hk, hx, hb2, hrw, hxw, hlo⟩
      have HB2 : Hid (Below w.heap.size w w2) := HB1.out.trans (hb2.mono HB1.out.size)
      have HY2 := Lib.hid ((hb2.block c3 hz1).trans HY1.out)
      have hz2 : c3 < w2.heap.size := Nat.lt_of_lt_of_le hz1 hb2.size
      have hzz := HB1.out.size
      have HK := Lib.hid hk; have HX := Lib.hid hx
      obtain ⟨c, hcr, hcal, hcw⟩ : ∃ c, w2.cell? ⟨r, 0, none⟩ = some (.pointer (some ⟨c, 0, none⟩)) ∧ CalAt c (setD []) w2 ∧ w1.heap.size ≤ c := by
        obtain ⟨c, vp, va, vs, g1, _, _, _, _, _, g5, _⟩ := hk
        obtain ⟨d, _, _, _, k1, _, _, _, k5⟩ := hlo
        rw [g1] at k1
        injection k1 with k1
        injection k1 with k1
        have e : Value.pointer (some ⟨c, 0, none⟩) = d := by
          have := congrArg (fun a : Array Value => a[0]?) k1
          simpa using this
        exact ⟨c, by rw [Lib.cell_of_heap g1]; rfl, g5, k5 c e.symm⟩
      have hrl := HK.out.lt
      have hcl := hcal.lt
      obtain ⟨cb, hcb⟩ : ∃ cs, w2.heap[c]? = some (.cells #[.map (some cs)] 126 (0, 0)) := by
        obtain ⟨q, _, g, _⟩ := hcal
        exact ⟨q, g⟩
      have hrc : r ≠ c := fun e => by
        obtain ⟨_, _, _, _, g, _⟩ := HK.out
        rw [e, hcb] at g
        injection g with g
        injection g with _ g
        exact absurd g (by decide)
      obtain ⟨cxs, hcxs⟩ := HX.out.heap
      have hxc : x ≠ c := type_ne hcxs hcb (by decide)
      have hxr : r ≠ x := by
        obtain ⟨_, _, _, _, g, _⟩ := HK.out
        exact type_ne g hcxs (by decide)
      have CL : Hid (∀ W, Below w2.heap.size w2 W → Calls Try.prog 32 #[.pointer (some ⟨c, 0, none⟩), .slice A n cp] W fun e w' => e = .returned (.int .i64 (errMore (setD []) ss)) ∧ CalAt c (outD (setD []) ss) w' ∧ Mv [c] [c] W w') := fun W hW => by
        have h := close_any c (setD []) ss A cp W (hcal.below hW) (by decide) (by rw [HN.out]; exact (HR.out.below (HB2.out.trans (hW.mono HB2.out.size))).more (Nat.le_trans HB2.out.size hW.size) |> fun h => by rw [HN.out] at h; exact h) (by rw [HN.out]; omega) HV.out
        rw [HN.out] at h
        exact h
      obtain ⟨E, hE⟩ : ∃ E, errMore (setD []) ss = E := ⟨_, rfl⟩
      rw [hE] at CL
      have HEE : Hid (errC8 [] ss = E) := by show _ = _; rw [sameI_none.err ss, hE]
      have CL8 : Hid (∀ W, R8At x sx3 W → Below w.heap.size w W → Calls Try.prog 33 #[.pointer (some ⟨x, 0, none⟩), .slice A n cp] W fun e w' => e = .returned (.int .i64 E) ∧ R8At x ⟨outC8 [] ss, p8, a8, s8⟩ w' ∧ Mv [x] [x] W w') := fun W hk hW => by
        have h := close8_any x sx3 ss A cp W hk ((HR.out.below hW).more hW.size) (by rw [HN.out]; omega) (by decide)
        rw [HN.out] at h
        have e2 : errC8 sx3.l ss = E := HEE.out
        rw [e2] at h
        exact h
      have hCR := Lib.hid hcr; have HCB := Lib.hid hcb; have HCX := Lib.hid hcxs
      have HHN : Hid (n ≤ 100) := by show _ ≤ _; omega
      clear hk hx hlo hcal hcb hcxs hE h100
      go_upto_region 6 with (fail)
      clear hd
      refine wp_region_held_drew (S := fun X => X.cell? ⟨r, 0, none⟩ = some (.pointer (some ⟨c, 0, none⟩))) (by kernel_rfl) (show (w2.drew).cell? _ = _ from hcr) (fun hHeld => ?_)
      refine wpAnyH_take (i := 0) (v := ?_) rfl (by kernel_rfl) (by kernel_rfl) (by kernel_rfl) (fun _ _ _ h => h) (Or.inl ⟨by rfl, ?_⟩) (by assumption) ?_
      rotate_left
      · intro X9 hSw; (try dsimp only at hSw); (try simp only [List.getElem_toArray, List.getElem_cons_zero]); first | (go_simp; done) | (go_simp; with_reducible rfl)
      try simp only [Act.put, List.setIfInBounds_toArray, List.set_cons_zero, List.set_cons_succ, List.getElem_toArray, List.getElem_cons_zero]
      refine wpAnyH_take (i := 1) (v := ?_) rfl (by kernel_rfl) (by kernel_rfl) (by kernel_rfl) (fun _ _ _ h => h) (Or.inl ⟨by rfl, ?_⟩) (by assumption) ?_
      rotate_left
      · intro X9 hSw; (try dsimp only at hSw); (try simp only [List.getElem_toArray, List.getElem_cons_succ, List.getElem_cons_zero]); first | (go_simp; done) | (go_simp; with_reducible rfl)
      try simp only [Act.put, List.setIfInBounds_toArray, List.set_cons_zero, List.set_cons_succ, List.getElem_toArray, List.getElem_cons_succ, List.getElem_cons_zero]
      refine wpAnyH_take (i := 2) (v := ?_) rfl (by kernel_rfl) (by kernel_rfl) (by kernel_rfl) (fun _ _ _ h => h) (Or.inl ⟨by rfl, ?_⟩) (by assumption) ?_
      rotate_left
      · intro X9 hSw; (try dsimp only at hSw); (try simp only [List.getElem_toArray, List.getElem_cons_succ, List.getElem_cons_zero]); first | (go_simp; done) | (go_simp; with_reducible rfl)
      try simp only [Act.put, List.setIfInBounds_toArray, List.set_cons_zero, List.set_cons_succ, List.getElem_toArray, List.getElem_cons_succ, List.getElem_cons_zero]
      refine wpAnyH_take (i := 3) (v := ?_) rfl (by kernel_rfl) (by kernel_rfl) (by kernel_rfl) (fun _ _ _ h => h) (Or.inl ⟨by rfl, ?_⟩) (by assumption) ?_
      rotate_left
      · intro X9 hSw; (try dsimp only at hSw); (try simp only [List.getElem_toArray, List.getElem_cons_succ, List.getElem_cons_zero]); first | (go_simp; done) | (go_simp; with_reducible rfl)
      try simp only [Act.put, List.setIfInBounds_toArray, List.set_cons_zero, List.set_cons_succ, List.getElem_toArray, List.getElem_cons_succ, List.getElem_cons_zero]
      refine wpAnyH_take (i := 4) (v := ?_) rfl (by kernel_rfl) (by kernel_rfl) (by kernel_rfl) (fun _ _ _ h => h) (Or.inl ⟨by rfl, ?_⟩) (by assumption) ?_
      rotate_left
      · intro X9 hSw; (try dsimp only at hSw); (try simp only [List.getElem_toArray, List.getElem_cons_succ, List.getElem_cons_zero]); first | (go_simp; done) | (go_simp; with_reducible rfl)
      try simp only [Act.put, List.setIfInBounds_toArray, List.set_cons_zero, List.set_cons_succ, List.getElem_toArray, List.getElem_cons_succ, List.getElem_cons_zero]
      refine wpAnyH_take (i := 6) (v := ?_) rfl (by kernel_rfl) (by kernel_rfl) (by kernel_rfl) (fun _ _ _ h => h) (Or.inl ⟨by rfl, ?_⟩) (by assumption) ?_
      rotate_left
      · intro X9 hSw; (try dsimp only at hSw); (try simp only [List.getElem_toArray, List.getElem_cons_succ, List.getElem_cons_zero]); first | (go_simp; done) | (go_simp; with_reducible rfl)
      try simp only [Act.put, List.setIfInBounds_toArray, List.set_cons_zero, List.set_cons_succ, List.getElem_toArray, List.getElem_cons_succ, List.getElem_cons_zero]
      refine wpAnyH_take (i := 7) (v := ?_) rfl (by kernel_rfl) (by kernel_rfl) (by kernel_rfl) (fun _ _ _ h => h) (Or.inl ⟨by rfl, ?_⟩) (by assumption) ?_
      rotate_left
      · intro X9 hSw; (try dsimp only at hSw); (try simp only [List.getElem_toArray, List.getElem_cons_succ, List.getElem_cons_zero]); first | (go_simp; done) | (go_simp; with_reducible rfl)
      try simp only [Act.put, List.setIfInBounds_toArray, List.set_cons_zero, List.set_cons_succ, List.getElem_toArray, List.getElem_cons_succ, List.getElem_cons_zero]
      refine wpAnyH_take (i := 8) (v := ?_) rfl (by kernel_rfl) (by kernel_rfl) (by kernel_rfl) (fun _ _ _ h => h) (Or.inl ⟨by rfl, ?_⟩) (by assumption) ?_
      rotate_left
      · intro X9 hSw; (try dsimp only at hSw); (try simp only [List.getElem_toArray, List.getElem_cons_succ, List.getElem_cons_zero]); first | (go_simp; done) | (go_simp; with_reducible rfl)
      try simp only [Act.put, List.setIfInBounds_toArray, List.set_cons_zero, List.set_cons_succ, List.getElem_toArray, List.getElem_cons_succ, List.getElem_cons_zero]
      refine wpAnyH_take (i := 9) (v := ?_) rfl (by kernel_rfl) (by kernel_rfl) (by kernel_rfl) (fun _ _ _ h => h) (Or.inl ⟨by rfl, ?_⟩) (by assumption) ?_
      rotate_left
      · intro X9 hSw; (try dsimp only at hSw); (try simp only [List.getElem_toArray, List.getElem_cons_succ, List.getElem_cons_zero]); first | (go_simp; done) | (go_simp; with_reducible rfl)
      try simp only [Act.put, List.setIfInBounds_toArray, List.set_cons_zero, List.set_cons_succ, List.getElem_toArray, List.getElem_cons_succ, List.getElem_cons_zero]
      refine wpAnyH_ready (rs := [5]) (by kernel_rfl) (by simp) (AllReadyH.cons rfl (fun K hK => ?_) (AllReadyH.nil))
      try simp only [List.getElem_toArray, List.getElem_cons_succ, List.getElem_cons_zero]
      go_simp
      refine (CL.out _ (Below.refl _ _).drew).mono ?_
      rintro e w3 ⟨rfl, hcal3, hm3⟩
      have hk3 := (HK.out.below (Below.refl _ _).drew).turn (w := w2.drew) hCR.out hm3 hcal3
      have hx3 := (HX.out.below (Below.refl _ _).drew).aside (w := w2.drew) hm3 HCB.out (by decide) (by intro s; simp) (by intro s; simp)
      have hB3 : Below w.heap.size w w3 := HB2.out.drew.trans (hm3.below (fun q hq => by simp at hq; omega) HB2.out.size)
      have hcr3 : w3.cell? ⟨r, 0, none⟩ = some (.pointer (some ⟨c, 0, none⟩)) := (World.cell?_of_block (a := ⟨r, 0, none⟩) (hm3.block r hrl (by simpa using hrc))).trans hCR.out
      have hY3 : w3.heap[c3]? = _ := (hm3.block c3 hz2 (by have := hcw; simp; omega)).trans HY2.out
      have hz3 : c3 < w3.heap.size := Nat.lt_of_lt_of_le hz2 hm3.size
      have hX3b : w3.heap[x]? = _ := (hm3.block x HX.out.lt (by simpa using hxc)).trans HCX.out
      clear hm3 hcal3
      refine hK.out _ _ (hcr3) (fun hHeld => ?_)
      clear hK K
      try simp only [Act.put, List.setIfInBounds_toArray, List.set_cons_zero, List.set_cons_succ, List.getElem_toArray, List.getElem_cons_succ, List.getElem_cons_zero]
      refine wpAnyH_ready (rs := [10]) (by kernel_rfl) (by simp) (AllReadyH.cons rfl (fun K hK => ?_) (AllReadyH.nil))
      try simp only [List.getElem_toArray, List.getElem_cons_succ, List.getElem_cons_zero]
      go_simp
      refine (CL8.out _ hx3 hB3).mono ?_
      rintro e w4 ⟨rfl, hx4, hm4⟩
      have hk4 := hk3.aside hm4 hX3b (by decide) (by decide)
      have hB4 : Below w.heap.size w w4 := hB3.trans (hm4.below (fun q hq => by simp at hq; omega) hB3.size)
      have hcr4 : w4.cell? ⟨r, 0, none⟩ = some (.pointer (some ⟨c, 0, none⟩)) := (World.cell?_of_block (a := ⟨r, 0, none⟩) (hm4.block r hk3.lt (by simpa using hxr))).trans hcr3
      have hY4 : w4.heap[c3]? = _ := (hm4.block c3 hz3 (by simp; omega)).trans hY3
      have hz4 : c3 < w4.heap.size := Nat.lt_of_lt_of_le hz3 hm4.size
      clear hm4
      refine hK.out _ _ (hcr4) (fun hHeld => ?_)
      clear hK K
      try simp only [Act.put, List.setIfInBounds_toArray, List.set_cons_zero, List.set_cons_succ, List.getElem_toArray, List.getElem_cons_succ, List.getElem_cons_zero]
      have hee : (E != E) = false := by simp
      refine wpAnyH_take (i := 11) (v := ?_) rfl (by kernel_rfl) (by kernel_rfl) (by kernel_rfl) (fun _ _ _ h => h) (Or.inl ⟨by rfl, ?_⟩) (by assumption) ?_
      rotate_left
      · intro X9 hSw; (try dsimp only at hSw); (try simp only [List.getElem_toArray, List.getElem_cons_succ, List.getElem_cons_zero]); first | (go_simp; done) | (go_simp; with_reducible rfl)
      try simp only [Act.put, List.setIfInBounds_toArray, List.set_cons_zero, List.set_cons_succ, List.getElem_toArray, List.getElem_cons_succ, List.getElem_cons_zero]
      refine wpAnyH_done (by kernel_rfl) ?_ _
      have HK4 := Lib.hid hk4; have HX4 := Lib.hid hx4; have HB4 := Lib.hid hB4
      have HY4 : Hid (w4.heap[c3]? = some (.cells #[.string t.p, .string t.a, .string t.m, .string t.o, .bool t.dl, .string t.s, .string t.c, .string t.r, .int .i64 t.q, .int .i64 t.am, .int .i64 t.dy, .int .i64 t.td] 23 (0, 0))) := hY4
      clear hk4 hx4 hB4 hcr4 hY4 hk3 hx3 hB3 hcr3 hY3 hX3b CL CL8 hcr
      obtain ⟨V, HVC⟩ : ∃ V, Hid (chkC ⟨sw3.p, sw3.a, sw3.s, outD (setD []) ss⟩ t today = V) := ⟨_, rfl⟩
      have CK : Hid (∀ W, Below w4.heap.size w4 W → Calls Try.prog 34 #[.pointer (some ⟨r, 0, none⟩), .agg #[.string t.p, .string t.a, .string t.m, .string t.o, .bool t.dl, .string t.s, .string t.c, .string t.r, .int .i64 t.q, .int .i64 t.am, .int .i64 t.dy, .int .i64 t.td], .int .i64 today] W fun e w' => e = .returned (.int .i64 V) ∧ Below W.heap.size W w') := fun W hW => by
        rw [← HVC.out]
        exact check_any r ⟨sw3.p, sw3.a, sw3.s, outD (setD []) ss⟩ ⟨sw3_ok.gp, sw3_ok.ga, sw3_ok.gs, sw3_ok.np, sw3_ok.na, sw3_ok.ns⟩ sw_ne sw_unit t ht today W (HK4.out.below hW)
      have hso := out8_small ss (by rw [HN.out]; exact HHN.out)
      have CK8 : Hid (∀ W, Below w4.heap.size w4 W → Calls Try.prog 35 #[.pointer (some ⟨x, 0, none⟩), .agg #[.string t.p, .string t.a, .string t.m, .string t.o, .bool t.dl, .string t.s, .string t.c, .string t.r, .int .i64 t.q, .int .i64 t.am, .int .i64 t.dy, .int .i64 t.td], .int .i64 today] W fun e w' => e = .returned (.int .i64 V) ∧ Below W.heap.size W w') := fun W hW => by
        rw [← HVC.out]
        exact check8_any x ⟨outC8 [] ss, p8, a8, s8⟩ ⟨sw3.p, sw3.a, sw3.s, outD (setD []) ss⟩ p8_same a8_same s8_same (fun d => (sameI_none.out ss).is d) (by show (outC8 [] ss).length ≤ _; omega) (by have := p8_len; show p8.length ≤ _; omega) (by have := a8_len; show a8.length ≤ _; omega) (by have := s8_len; show s8.length ≤ _; omega) sw_unit t ht today W (HX4.out.below hW)
      go_upto_region 8 with (fail)
      refine wp_region_held_drew (S := fun X => X.heap[c3]? = some (.cells #[.string t.p, .string t.a, .string t.m, .string t.o, .bool t.dl, .string t.s, .string t.c, .string t.r, .int .i64 t.q, .int .i64 t.am, .int .i64 t.dy, .int .i64 t.td] 23 (0, 0))) (by kernel_rfl) (show (w4.drew).heap[c3]? = _ from HY4.out) (fun hHeld => ?_)
      refine wpAnyH_ready (rs := [0]) (by kernel_rfl) (by simp) (AllReadyH.cons rfl (fun K hK => ?_) (AllReadyH.nil))
      try simp only [List.getElem_toArray, List.getElem_cons_zero]
      go_simp
      refine (alive12_any _).mono ?_
      rintro e w5 ⟨rfl, hb5⟩
      have hB5 : Below w4.heap.size w4 w5 := (Below.refl _ _).drew.trans hb5
      refine hK.out _ _ ((hB5.block c3 hz4).trans HY4.out) (fun hHeld => ?_)
      clear hK K
      try simp only [Act.put, List.setIfInBounds_toArray, List.set_cons_zero, List.set_cons_succ, List.getElem_toArray, List.getElem_cons_succ, List.getElem_cons_zero]
      refine wpAnyH_take (i := 1) (v := ?_) rfl (by kernel_rfl) (by kernel_rfl) (by kernel_rfl) (fun _ _ _ h => h) (Or.inl ⟨by rfl, ?_⟩) (by assumption) ?_
      rotate_left
      · intro X9 hSw; (try dsimp only at hSw); (try simp only [List.getElem_toArray, List.getElem_cons_succ, List.getElem_cons_zero]); first | (go_simp; done) | (go_simp; with_reducible rfl)
      try simp only [Act.put, List.setIfInBounds_toArray, List.set_cons_zero, List.set_cons_succ, List.getElem_toArray, List.getElem_cons_succ, List.getElem_cons_zero]
      refine wpAnyH_take (i := 2) (v := ?_) rfl (by kernel_rfl) (by kernel_rfl) (by kernel_rfl) (fun _ _ _ h => h) (Or.inl ⟨by rfl, ?_⟩) (by assumption) ?_
      rotate_left
      · intro X9 hSw; (try dsimp only at hSw); (try simp only [List.getElem_toArray, List.getElem_cons_succ, List.getElem_cons_zero]); first | (go_simp; done) | (go_simp; with_reducible rfl)
      try simp only [Act.put, List.setIfInBounds_toArray, List.set_cons_zero, List.set_cons_succ, List.getElem_toArray, List.getElem_cons_succ, List.getElem_cons_zero]
      refine wpAnyH_take (i := 3) (v := .agg #[.string t.p, .string t.a, .string t.m, .string t.o, .bool t.dl, .string t.s, .string t.c, .string t.r, .int .i64 t.q, .int .i64 t.am, .int .i64 t.dy, .int .i64 t.td]) rfl (by kernel_rfl) (by kernel_rfl) (by kernel_rfl) (fun _ _ _ h => h) (yields_row8 (by rfl) 23 _ rfl c3 rfl 23 #[.string t.p, .string t.a, .string t.m, .string t.o, .bool t.dl, .string t.s, .string t.c, .string t.r, .int .i64 t.q, .int .i64 t.am, .int .i64 t.dy, .int .i64 t.td] _ (fun _ h => h) Try.underlying23 rfl size_term8) (by assumption) ?_
      try simp only [Act.put, List.setIfInBounds_toArray, List.set_cons_zero, List.set_cons_succ, List.getElem_toArray, List.getElem_cons_succ, List.getElem_cons_zero]
      refine wpAnyH_take (i := 4) (v := ?_) rfl (by kernel_rfl) (by kernel_rfl) (by kernel_rfl) (fun _ _ _ h => h) (Or.inl ⟨by rfl, ?_⟩) (by assumption) ?_
      rotate_left
      · intro X9 hSw; (try dsimp only at hSw); (try simp only [List.getElem_toArray, List.getElem_cons_succ, List.getElem_cons_zero]); first | (go_simp; done) | (go_simp; with_reducible rfl)
      try simp only [Act.put, List.setIfInBounds_toArray, List.set_cons_zero, List.set_cons_succ, List.getElem_toArray, List.getElem_cons_succ, List.getElem_cons_zero]
      refine wpAnyH_take (i := 6) (v := ?_) rfl (by kernel_rfl) (by kernel_rfl) (by kernel_rfl) (fun _ _ _ h => h) (Or.inl ⟨by rfl, ?_⟩) (by assumption) ?_
      rotate_left
      · intro X9 hSw; (try dsimp only at hSw); (try simp only [List.getElem_toArray, List.getElem_cons_succ, List.getElem_cons_zero]); first | (go_simp; done) | (go_simp; with_reducible rfl)
      try simp only [Act.put, List.setIfInBounds_toArray, List.set_cons_zero, List.set_cons_succ, List.getElem_toArray, List.getElem_cons_succ, List.getElem_cons_zero]
      refine wpAnyH_take (i := 7) (v := .agg #[.string t.p, .string t.a, .string t.m, .string t.o, .bool t.dl, .string t.s, .string t.c, .string t.r, .int .i64 t.q, .int .i64 t.am, .int .i64 t.dy, .int .i64 t.td]) rfl (by kernel_rfl) (by kernel_rfl) (by kernel_rfl) (fun _ _ _ h => h) (yields_row8 (by rfl) 23 _ rfl c3 rfl 23 #[.string t.p, .string t.a, .string t.m, .string t.o, .bool t.dl, .string t.s, .string t.c, .string t.r, .int .i64 t.q, .int .i64 t.am, .int .i64 t.dy, .int .i64 t.td] _ (fun _ h => h) Try.underlying23 rfl size_term8) (by assumption) ?_
      try simp only [Act.put, List.setIfInBounds_toArray, List.set_cons_zero, List.set_cons_succ, List.getElem_toArray, List.getElem_cons_succ, List.getElem_cons_zero]
      refine wpAnyH_take (i := 8) (v := ?_) rfl (by kernel_rfl) (by kernel_rfl) (by kernel_rfl) (fun _ _ _ h => h) (Or.inl ⟨by rfl, ?_⟩) (by assumption) ?_
      rotate_left
      · intro X9 hSw; (try dsimp only at hSw); (try simp only [List.getElem_toArray, List.getElem_cons_succ, List.getElem_cons_zero]); first | (go_simp; done) | (go_simp; with_reducible rfl)
      try simp only [Act.put, List.setIfInBounds_toArray, List.set_cons_zero, List.set_cons_succ, List.getElem_toArray, List.getElem_cons_succ, List.getElem_cons_zero]
      refine wpAnyH_ready (rs := [5]) (by kernel_rfl) (by simp) (AllReadyH.cons rfl (fun K hK => ?_) (AllReadyH.nil))
      try simp only [List.getElem_toArray, List.getElem_cons_succ, List.getElem_cons_zero]
      go_simp
      refine (CK.out _ hB5).mono ?_
      rintro e w6 ⟨rfl, hb6⟩
      have hB6 := hB5.trans (hb6.mono hB5.size)
      refine hK.out _ _ ((hB6.block c3 hz4).trans HY4.out) (fun hHeld => ?_)
      clear hK K
      try simp only [Act.put, List.setIfInBounds_toArray, List.set_cons_zero, List.set_cons_succ, List.getElem_toArray, List.getElem_cons_succ, List.getElem_cons_zero]
      refine wpAnyH_ready (rs := [9]) (by kernel_rfl) (by simp) (AllReadyH.cons rfl (fun K hK => ?_) (AllReadyH.nil))
      try simp only [List.getElem_toArray, List.getElem_cons_succ, List.getElem_cons_zero]
      go_simp
      refine (CK8.out _ hB6).mono ?_
      rintro e w7 ⟨rfl, hb7⟩
      have hB7 := hB6.trans (hb7.mono hB6.size)
      refine hK.out _ _ ((hB7.block c3 hz4).trans HY4.out) (fun hHeld => ?_)
      clear hK K
      try simp only [Act.put, List.setIfInBounds_toArray, List.set_cons_zero, List.set_cons_succ, List.getElem_toArray, List.getElem_cons_succ, List.getElem_cons_zero]
      have hvv : (V == V) = true := by simp
      refine wpAnyH_take (i := 10) (v := ?_) rfl (by kernel_rfl) (by kernel_rfl) (by kernel_rfl) (fun _ _ _ h => h) (Or.inl ⟨by rfl, ?_⟩) (by assumption) ?_
      rotate_left
      · intro X9 hSw; (try dsimp only at hSw); (try simp only [List.getElem_toArray, List.getElem_cons_succ, List.getElem_cons_zero]); first | (go_simp; done) | (go_simp; with_reducible rfl)
      try simp only [Act.put, List.setIfInBounds_toArray, List.set_cons_zero, List.set_cons_succ, List.getElem_toArray, List.getElem_cons_succ, List.getElem_cons_zero]
      refine wpAnyH_take (i := 11) (v := ?_) rfl (by kernel_rfl) (by kernel_rfl) (by kernel_rfl) (fun _ _ _ h => h) (Or.inl ⟨by rfl, ?_⟩) (by assumption) ?_
      rotate_left
      · intro X9 hSw; (try dsimp only at hSw); (try simp only [List.getElem_toArray, List.getElem_cons_succ, List.getElem_cons_zero]); first | (go_simp; done) | (go_simp; with_reducible rfl)
      try simp only [Act.put, List.setIfInBounds_toArray, List.set_cons_zero, List.set_cons_succ, List.getElem_toArray, List.getElem_cons_succ, List.getElem_cons_zero]
      refine wpAnyH_take (i := 12) (v := ?_) rfl (by kernel_rfl) (by kernel_rfl) (by kernel_rfl) (fun _ _ _ h => h) (Or.inl ⟨by rfl, ?_⟩) (by assumption) ?_
      rotate_left
      · intro X9 hSw; (try dsimp only at hSw); (try simp only [List.getElem_toArray, List.getElem_cons_succ, List.getElem_cons_zero]); first | (go_simp; done) | (go_simp; with_reducible rfl)
      try simp only [Act.put, List.setIfInBounds_toArray, List.set_cons_zero, List.set_cons_succ, List.getElem_toArray, List.getElem_cons_succ, List.getElem_cons_zero]
      refine wpAnyH_take (i := 13) (v := .agg #[.string t.p, .string t.a, .string t.m, .string t.o, .bool t.dl, .string t.s, .string t.c, .string t.r, .int .i64 t.q, .int .i64 t.am, .int .i64 t.dy, .int .i64 t.td]) rfl (by kernel_rfl) (by kernel_rfl) (by kernel_rfl) (fun _ _ _ h => h) (yields_row8 (by rfl) 23 _ rfl c3 rfl 23 #[.string t.p, .string t.a, .string t.m, .string t.o, .bool t.dl, .string t.s, .string t.c, .string t.r, .int .i64 t.q, .int .i64 t.am, .int .i64 t.dy, .int .i64 t.td] _ (fun _ h => h) Try.underlying23 rfl size_term8) (by assumption) ?_
      try simp only [Act.put, List.setIfInBounds_toArray, List.set_cons_zero, List.set_cons_succ, List.getElem_toArray, List.getElem_cons_succ, List.getElem_cons_zero]
      refine wpAnyH_take (i := 14) (v := ?_) rfl (by kernel_rfl) (by kernel_rfl) (by kernel_rfl) (fun _ _ _ h => h) (Or.inl ⟨by rfl, ?_⟩) (by assumption) ?_
      rotate_left
      · intro X9 hSw; (try dsimp only at hSw); (try simp only [List.getElem_toArray, List.getElem_cons_succ, List.getElem_cons_zero]); first | (go_simp; done) | (go_simp; with_reducible rfl)
      try simp only [Act.put, List.setIfInBounds_toArray, List.set_cons_zero, List.set_cons_succ, List.getElem_toArray, List.getElem_cons_succ, List.getElem_cons_zero]
      refine wpAnyH_ready (rs := [15]) (by kernel_rfl) (by simp) (AllReadyH.cons rfl (fun K hK => ?_) (AllReadyH.nil))
      try simp only [List.getElem_toArray, List.getElem_cons_succ, List.getElem_cons_zero]
      go_simp
      refine (check_nil t today _).mono ?_
      rintro e w8 ⟨rfl, hb8⟩
      have hB8 := hB7.trans (hb8.mono hB7.size)
      refine hK.out _ _ ((hB8.block c3 hz4).trans HY4.out) (fun hHeld => ?_)
      clear hK K
      try simp only [Act.put, List.setIfInBounds_toArray, List.set_cons_zero, List.set_cons_succ, List.getElem_toArray, List.getElem_cons_succ, List.getElem_cons_zero]
      refine wpAnyH_take (i := 16) (v := ?_) rfl (by kernel_rfl) (by kernel_rfl) (by kernel_rfl) (fun _ _ _ h => h) (Or.inl ⟨by rfl, ?_⟩) (by assumption) ?_
      rotate_left
      · intro X9 hSw; (try dsimp only at hSw); (try simp only [List.getElem_toArray, List.getElem_cons_succ, List.getElem_cons_zero]); first | (go_simp; done) | (go_simp; with_reducible rfl)
      try simp only [Act.put, List.setIfInBounds_toArray, List.set_cons_zero, List.set_cons_succ, List.getElem_toArray, List.getElem_cons_succ, List.getElem_cons_zero]
      refine wpAnyH_take (i := 17) (v := ?_) rfl (by kernel_rfl) (by kernel_rfl) (by kernel_rfl) (fun _ _ _ h => h) (Or.inl ⟨by rfl, ?_⟩) (by assumption) ?_
      rotate_left
      · intro X9 hSw; (try dsimp only at hSw); (try simp only [List.getElem_toArray, List.getElem_cons_succ, List.getElem_cons_zero]); first | (go_simp; done) | (go_simp; with_reducible rfl)
      try simp only [Act.put, List.setIfInBounds_toArray, List.set_cons_zero, List.set_cons_succ, List.getElem_toArray, List.getElem_cons_succ, List.getElem_cons_zero]
      refine wpAnyH_take (i := 18) (v := ?_) rfl (by kernel_rfl) (by kernel_rfl) (by kernel_rfl) (fun _ _ _ h => h) (Or.inl ⟨by rfl, ?_⟩) (by assumption) ?_
      rotate_left
      · intro X9 hSw; (try dsimp only at hSw); (try simp only [List.getElem_toArray, List.getElem_cons_succ, List.getElem_cons_zero]); first | (go_simp; done) | (go_simp; with_reducible rfl)
      try simp only [Act.put, List.setIfInBounds_toArray, List.set_cons_zero, List.set_cons_succ, List.getElem_toArray, List.getElem_cons_succ, List.getElem_cons_zero]
      refine wpAnyH_done (by kernel_rfl) ?_ _
      have HB9 : Hid (Below w.heap.size w w8) := HB4.out.trans (hB8.mono HB4.out.size)
      clear hB5 hB6 hB7 hB8 hb5 hb6 hb7 hb8
      go_wp2
      go_ret
      exact ⟨rfl, HB9.out⟩
end Go.Proofs.Ytkcecijepbceiaa
