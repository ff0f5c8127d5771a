/-
  Package disk as contracts: an operation is counted, what is done if the power stays, is a file there, how many bytes all have.
  Conditions: disks that the call has made.
-/
import Derived.Test.YtfmbadinfhpihaaGreatDisk1
namespace Go.Proofs.YtfmbadinfhpihaaGreat
open Go.RowKit Go.Maps

/-- An operation begins: does the power fail at it? -/
def opD (st : Dk) : Dk × Bool :=
  if st.fused = true then
    if 0 < st.left then (⟨st.on, true, st.left - 1, min (st.ops + 1) 4611686018427387904, st.fs⟩, false)
    else (⟨false, false, st.left, min (st.ops + 1) 4611686018427387904, st.fs⟩, true)
  else (⟨st.on, false, st.left, min (st.ops + 1) 4611686018427387904, st.fs⟩, false)
theorem opD_fs (st : Dk) : (opD st).1.fs = st.fs := by unfold opD; split <;> (try split) <;> rfl
theorem opD_ok {st : Dk} (h : st.Ok) : (opD st).1.Ok := by
  have h1 := h.ops0; have h2 := h.ops1; have h3 := h.left0; have h4 := h.left1
  have h5 : 0 ≤ min (st.ops + 1) 4611686018427387904 := by omega
  have h6 : min (st.ops + 1) 4611686018427387904 ≤ 4611686018427387904 := by omega
  unfold opD
  split
  · split
    · exact ⟨h.good, h5, h6, by show _ ≤ st.left - 1; omega, by show st.left - 1 ≤ _; omega, h.few, h.tot⟩
    · exact ⟨h.good, h5, h6, h3, h4, h.few, h.tot⟩
  · exact ⟨h.good, h5, h6, h3, h4, h.few, h.tot⟩

set_option maxHeartbeats 1000000 in
theorem op_any (c b : Nat) (st : Dk) (hok : st.Ok) (w : World) (h : DkAt c b st w) :
    Calls Tryz.prog 53 #[.pointer (some ⟨c, 0, none⟩)] w fun e w' => e = .returned (.bool (opD st).2) ∧ DkAt c b (opD st).1 w' ∧ Mv [c] [c] w w' := by
  obtain ⟨on, fused, left, ops, fs⟩ := st
  have h1 : 0 ≤ ops := hok.ops0
  have h2 : ops ≤ 4611686018427387904 := hok.ops1
  have h3 : -9223372036854775808 ≤ left := hok.left0
  have h4 : left ≤ 9223372036854775807 := hok.left1
  have c0 : w.cell? ⟨c, 0, none⟩ = some (.bool on) := h.cell0
  have c1 : w.cell? ⟨c, 1, none⟩ = some (.bool fused) := h.cell1
  have c2 : w.cell? ⟨c, 2, none⟩ = some (.int .i64 left) := h.cell2
  have c3 : w.cell? ⟨c, 3, none⟩ = some (.int .i64 ops) := h.cell3
  have f0 := h.frozen 0; have f1 := h.frozen 1; have f2 := h.frozen 2; have f3 := h.frozen 3
  have H := Lib.hid h
  clear h hok
  cases fused
  · have hr : opD ⟨on, false, left, ops, fs⟩ = (⟨on, false, left, min (ops + 1) 4611686018427387904, fs⟩, false) := by unfold opD; rw [if_neg (show ¬ (false = true) by decide)]
    rw [hr]
    clear hr
    go_enter Tryz.func53, Tryz.ntmps53
    go_wp2
    go_ret
    exact ⟨rfl, H.out.set3 _, mv_cell 3 _⟩
  · by_cases hl : 0 < left
    · have hr : opD ⟨on, true, left, ops, fs⟩ = (⟨on, true, left - 1, min (ops + 1) 4611686018427387904, fs⟩, false) := by unfold opD; rw [if_pos rfl, if_pos hl]
      rw [hr]
      clear hr
      go_enter Tryz.func53, Tryz.ntmps53
      go_wp2
      go_ret
      exact ⟨rfl, (H.out.set3 _).set2 _, (mv_cell 3 _).trans (mv_cell 2 _)⟩
    · have hr : opD ⟨on, true, left, ops, fs⟩ = (⟨false, false, left, min (ops + 1) 4611686018427387904, fs⟩, true) := by unfold opD; rw [if_pos rfl, if_neg hl]
      rw [hr]
      clear hr
      go_enter Tryz.func53, Tryz.ntmps53
      go_wp2
      go_ret
      exact ⟨rfl, ((H.out.set3 _).set0 _).set1 _, ((mv_cell 3 _).trans (mv_cell 0 _)).trans (mv_cell 1 _)⟩
theorem off_any (c b : Nat) (st : Dk) (w : World) (h : DkAt c b st w) :
    Calls Tryz.prog 52 #[.pointer (some ⟨c, 0, none⟩)] w fun e w' => e = .returned (.bool (!st.on)) ∧ w = w' := by
  have c0 := h.cell0
  clear h
  obtain ⟨on, fused, left, ops, fs⟩ := st
  cases on
  all_goals
    go_enter Tryz.func52, Tryz.ntmps52
    go_wp2
    go_ret
    exact ⟨rfl, rfl⟩
theorem off_nil (w : World) :
    Calls Tryz.prog 52 #[.pointer none] w fun e w' => e = .returned (.bool true) ∧ w = w' := by
  go_enter Tryz.func52, Tryz.ntmps52
  go_wp2
  go_ret
  exact ⟨rfl, rfl⟩
/-- What is done if there is power and it stays: 'wrong' tells ew in that disk, 'work' makes it st2. -/
def doD (st : Dk) (wrong : Dk → Int) (work : Dk → Dk) : Int × Dk :=
  if st.on = true then
    if (opD st).2 = true then (14, (opD st).1)
    else if wrong (opD st).1 = 0 then (0, work (opD st).1) else (wrong (opD st).1, (opD st).1)
  else (14, st)
set_option maxHeartbeats 1000000 in
theorem do_any (c b : Nat) (st : Dk) (hok : st.Ok) (w : World) (h : DkAt c b st w) (f g : Nat) (U V : Array Value) (wrong : Dk → Int) (work : Dk → Dk)
    (ef : ∀ w, (callFunc f U).run Tryz.prog w = .ok (.enter f U) w) (eg : ∀ w, (callFunc g V).run Tryz.prog w = .ok (.enter g V) w)
    (hf : ∀ w1, DkAt c b (opD st).1 w1 → Mv [c] [c] w w1 → Calls Tryz.prog f U w1 fun e w' => e = .returned (.int .i64 (wrong (opD st).1)) ∧ Below w1.heap.size w1 w')
    (hg : wrong (opD st).1 = 0 → ∀ w1, DkAt c b (opD st).1 w1 → Mv [c] [c] w w1 → Calls Tryz.prog g V w1 fun e w' => e = .returned (.tuple #[]) ∧ DkAt c b (work (opD st).1) w' ∧ Mv [b] [b] w1 w') :
    Calls Tryz.prog 58 #[.pointer (some ⟨c, 0, none⟩), .func (.func f) #[] U, .func (.func g) #[] V] w fun e w' => e = .returned (.int .i64 (doD st wrong work).1) ∧ DkAt c b (doD st wrong work).2 w' ∧ Mv [c, b] [c, b] w w' := by
  have H1 := Lib.hid (off_any c b st w h)
  have H2 := Lib.hid (op_any c b st hok w h)
  have HK := Lib.hid h
  have hlb := h.ltb
  have hmv : ∀ w1 w2, Mv [c] [c] w w1 → Below w1.heap.size w1 w2 → Mv [c, b] [c, b] w w2 := fun w1 w2 hm hb => (hm.then_below hb).wide (by simp)
  have hmk : ∀ w1 w2, Mv [c] [c] w w1 → Mv [b] [b] w1 w2 → Mv [c, b] [c, b] w w2 := fun w1 w2 hm hb => (hm.wide (T := [c, b]) (by simp)).trans (hb.wide (by simp))
  obtain ⟨x, hx⟩ : ∃ x, st.on = x := ⟨_, rfl⟩
  obtain ⟨st1, hs1⟩ : ∃ st1, (opD st).1 = st1 := ⟨_, rfl⟩
  obtain ⟨y, hy⟩ : ∃ y, (opD st).2 = y := ⟨_, rfl⟩
  obtain ⟨ew, hew⟩ : ∃ ew, wrong st1 = ew := ⟨_, rfl⟩
  unfold doD
  rw [hs1] at H2 hf hg ⊢
  rw [hy] at H2 ⊢
  rw [hx] at H1 ⊢
  rw [hew] at hf hg ⊢
  have HF := fun w1 h1 h2 => Lib.hid (hf w1 h1 h2)
  have HG := fun h0 w1 h1 h2 => Lib.hid (hg h0 w1 h1 h2)
  have HM := Lib.hid hmv
  have HMK := Lib.hid hmk
  clear h hok hf hg hmv hmk hs1 hy hx hew
  cases x
  · rw [if_neg (show ¬ (false = true) by decide)]
    go_enter Tryz.func58, Tryz.ntmps58
    go_wp2_with fail
    refine H1.out.mono ?_
    rintro e w1 ⟨rfl, rfl⟩
    go_wp2
    go_ret
    exact ⟨rfl, HK.out, Mv.refl _ _⟩
  · rw [if_pos rfl]
    cases y
    · rw [if_neg (show ¬ (false = true) by decide)]
      by_cases h0 : ew = 0
      · subst h0
        rw [if_pos rfl]
        go_enter Tryz.func58, Tryz.ntmps58
        go_wp2_with fail
        refine H1.out.mono ?_
        rintro e w1 ⟨rfl, rfl⟩
        go_wp2_with fail
        refine H2.out.mono ?_
        rintro e w1 ⟨rfl, h1, hm1⟩
        have HK1 := Lib.hid h1
        have HM1 := Lib.hid hm1
        have HF1 := HF w1 h1 hm1
        clear h1 hm1
        go_wp2_with fail
        refine HF1.out.mono ?_
        rintro e w2 ⟨rfl, hb2⟩
        have hk2 := HK1.out.below hb2 HK1.out.lt HK1.out.ltb
        have hm2 := HM1.out.then_below hb2
        have HG2 := HG (by first | trivial | rfl) w2 hk2 hm2
        have HM2 := Lib.hid hm2
        clear hk2 hm2 hb2
        go_wp2_with fail
        refine HG2.out.mono ?_
        rintro e w3 ⟨rfl, h3, hm3⟩
        have HK3 := Lib.hid h3
        have HM3 := Lib.hid (HMK.out _ _ HM2.out hm3)
        clear h3 hm3
        go_wp2
        go_ret
        exact ⟨rfl, HK3.out, HM3.out⟩
      · rw [if_neg h0]
        have hb0 : (ew == 0) = false := by simpa using h0
        go_enter Tryz.func58, Tryz.ntmps58
        go_wp2_with fail
        refine H1.out.mono ?_
        rintro e w1 ⟨rfl, rfl⟩
        go_wp2_with fail
        refine H2.out.mono ?_
        rintro e w1 ⟨rfl, h1, hm1⟩
        have HK1 := Lib.hid h1
        have HM1 := Lib.hid hm1
        have HF1 := HF w1 h1 hm1
        clear h1 hm1
        go_wp2_with fail
        refine HF1.out.mono ?_
        rintro e w2 ⟨rfl, hb2⟩
        have hk2 := HK1.out.below hb2 HK1.out.lt HK1.out.ltb
        have HK2 := Lib.hid hk2
        have HM2 := Lib.hid (HM.out _ _ HM1.out hb2)
        clear hk2 hb2
        go_wp2
        go_ret
        exact ⟨rfl, HK2.out, HM2.out⟩
    · rw [if_pos rfl]
      go_enter Tryz.func58, Tryz.ntmps58
      go_wp2_with fail
      refine H1.out.mono ?_
      rintro e w1 ⟨rfl, rfl⟩
      go_wp2_with fail
      refine H2.out.mono ?_
      rintro e w1 ⟨rfl, h1, hm1⟩
      have HK1 := Lib.hid h1
      have HM1 := Lib.hid (HM.out _ _ hm1 (Below.refl _ _))
      clear h1 hm1
      go_wp2
      go_ret
      exact ⟨rfl, HK1.out, HM1.out⟩
end Go.Proofs.YtfmbadinfhpihaaGreat
