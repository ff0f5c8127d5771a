/-
  Texts of one chapter joined: XDisk1, XDisk2, XDisk3, XDisk4, XDisk5.
  Conditions: each lemma's own premises.
-/
import Derived.WalkKit
import Derived.Lib.Hide
import Derived.Deep.QuietTactic
import Derived.BigQuiet
import Derived.Deep.DeepCutAuto
import Derived.Deep.RegionHeld3
import Derived.KernelRfl
import Derived.WalkSpells
import Derived.Test.YtfmbadinfhpihaaGreatDiskPlain
import Derived.Test.YtfmbadinfhpihaaGreatBuilder
set_option linter.unusedVariables false
set_option linter.unusedSimpArgs false
namespace Go.Proofs.YtfmbadinfhpihaaGreat
open Go.RowKit Go.Maps

theorem keyT : Keyed Tryz.prog 9 := string_keyed Tryz.underlying9
theorem zeroF (w : World) : (zeroValue 108).run Tryz.prog w = .ok (.agg #[.string ⟨#[]⟩, .int .i64 0]) w := by kernel_rfl
theorem key_str {s : ByteArray} (h : s.size ≤ 9223372036854775807) : keyOf Tryz.prog 9 (.string s) = some (kS s) := by
  unfold keyOf kS
  simp [Tryz.underlying9, mapKey]
  unfold maxLen
  exact h
theorem map_nil (w : World) (r : Option Nat) : (binOp .eql 45 (.map r) (.map none)).run Tryz.prog w = .ok (.bool r.isNone) w := run_eql_map_nil w 45 _ _ r Tryz.underlying45

theorem Mv.then_below {S S' : List Nat} {w w' w'' : World} (h : Mv S S' w w') (hb : Below w'.heap.size w' w'') : Mv S S' w w'' := h.trans (Mv.of_new hb fun _ h => .inl h)
/-- A greater footprint: what is in it stays in it. -/
theorem Mv.wide {S T : List Nat} {w w' : World} (h : Mv S S w w') (hST : ∀ k, k ∈ S → k ∈ T) : Mv T T w w' := ⟨h.os, h.tape, h.output, h.size, fun k hk hn => h.block k hk (fun e => hn (hST k e)), fun _ hk => .inl hk⟩
/-- A disk, in plain words. -/
structure Dk where
  on : Bool
  fused : Bool
  left : Int
  ops : Int
  fs : DataW Unit
def maxOpsI : Int := 4611686018427387904
/-- What holds of every disk. -/
structure Dk.Ok (st : Dk) : Prop where
  good : GoodF st.fs
  ops0 : 0 ≤ st.ops
  ops1 : st.ops ≤ 4611686018427387904
  left0 : -9223372036854775808 ≤ st.left
  left1 : st.left ≤ 9223372036854775807
  few : Maps.size st.fs ≤ 1000000
  tot : totF st.fs ≤ 1000000000
/-- A disk in block c, its map in block b. -/
def DkAt (c b : Nat) (st : Dk) (w : World) : Prop :=
  w.heap[c]? = some (.cells #[.bool st.on, .bool st.fused, .int .i64 st.left, .int .i64 st.ops, .map (some b)] 47 (0, 0)) ∧ w.ownsMap Tryz.prog 9 fileE b (Maps.size st.fs) st.fs ∧ c ≠ b
theorem own_tight {w : World} {b n : Nat} {D : DataW Unit} (h : w.ownsMap Tryz.prog 9 fileE b n D) : w.ownsMap Tryz.prog 9 fileE b (Maps.size D) D := by
  obtain ⟨es, clock, hb, F, hs, hD⟩ := h
  refine ⟨es, clock, hb, F, ?_, hD⟩
  rw [hD, size_eq, length_read]
  exact Nat.le_refl _
theorem own_keep {w w' : World} {b n : Nat} {D : DataW Unit} (h : w.ownsMap Tryz.prog 9 fileE b n D) (hb : w'.heap[b]? = w.heap[b]?) : w'.ownsMap Tryz.prog 9 fileE b n D := by
  obtain ⟨es, clock, h1, h2⟩ := h
  exact ⟨es, clock, hb.trans h1, h2⟩
section
variable {c b : Nat} {st : Dk} {w w' : World}
theorem DkAt.lt (h : DkAt c b st w) : c < w.heap.size := Blk.lt h.1
theorem DkAt.ltb (h : DkAt c b st w) : b < w.heap.size := h.2.1.lt
theorem DkAt.keep (h : DkAt c b st w) (hc : w'.heap[c]? = w.heap[c]?) (hb : w'.heap[b]? = w.heap[b]?) : DkAt c b st w' := ⟨hc.trans h.1, own_keep h.2.1 hb, h.2.2⟩
theorem DkAt.below {B : Nat} (h : DkAt c b st w) (hb : Below B w w') (h1 : c < B) (h2 : b < B) : DkAt c b st w' := h.keep (hb.block c h1) (hb.block b h2)
theorem DkAt.alloc (h : DkAt c b st w) (o : Obj) : DkAt c b st (w.alloc o) := h.keep (Below.heap_alloc w o c h.lt) (Below.heap_alloc w o b h.ltb)
theorem DkAt.mv {S S' : List Nat} (h : DkAt c b st w) (hm : Mv S S' w w') (h1 : c ∉ S) (h2 : b ∉ S) : DkAt c b st w' := h.keep (hm.block c h.lt h1) (hm.block b h.ltb h2)
theorem DkAt.cell0 (h : DkAt c b st w) : w.cell? ⟨c, 0, none⟩ = some (.bool st.on) := by rw [Lib.cell_of_heap h.1]; rfl
theorem DkAt.cell1 (h : DkAt c b st w) : w.cell? ⟨c, 1, none⟩ = some (.bool st.fused) := by rw [Lib.cell_of_heap h.1]; rfl
theorem DkAt.cell2 (h : DkAt c b st w) : w.cell? ⟨c, 2, none⟩ = some (.int .i64 st.left) := by rw [Lib.cell_of_heap h.1]; rfl
theorem DkAt.cell3 (h : DkAt c b st w) : w.cell? ⟨c, 3, none⟩ = some (.int .i64 st.ops) := by rw [Lib.cell_of_heap h.1]; rfl
theorem DkAt.cell4 (h : DkAt c b st w) : w.cell? ⟨c, 4, none⟩ = some (.map (some b)) := by rw [Lib.cell_of_heap h.1]; rfl
theorem DkAt.frozen (h : DkAt c b st w) (i : Nat) : w.frozen? ⟨c, i, none⟩ = false := Lib.frozen_of_heap h.1 i
/-- The disk's own cells are written, one by one. -/
theorem DkAt.set0 (h : DkAt c b st w) (x : Bool) : DkAt c b { st with on := x } (w.setCell ⟨c, 0, none⟩ (.bool x)) :=
  ⟨Blk.set_ (show Blk w c 47 _ from h.1) 0 _, own_keep h.2.1 (Below.heap_setCell _ _ _ _ (Ne.symm h.2.2)), h.2.2⟩
theorem DkAt.set1 (h : DkAt c b st w) (x : Bool) : DkAt c b { st with fused := x } (w.setCell ⟨c, 1, none⟩ (.bool x)) :=
  ⟨Blk.set_ (show Blk w c 47 _ from h.1) 1 _, own_keep h.2.1 (Below.heap_setCell _ _ _ _ (Ne.symm h.2.2)), h.2.2⟩
theorem DkAt.set2 (h : DkAt c b st w) (x : Int) : DkAt c b { st with left := x } (w.setCell ⟨c, 2, none⟩ (.int .i64 x)) :=
  ⟨Blk.set_ (show Blk w c 47 _ from h.1) 2 _, own_keep h.2.1 (Below.heap_setCell _ _ _ _ (Ne.symm h.2.2)), h.2.2⟩
theorem DkAt.set3 (h : DkAt c b st w) (x : Int) : DkAt c b { st with ops := x } (w.setCell ⟨c, 3, none⟩ (.int .i64 x)) :=
  ⟨Blk.set_ (show Blk w c 47 _ from h.1) 3 _, own_keep h.2.1 (Below.heap_setCell _ _ _ _ (Ne.symm h.2.2)), h.2.2⟩
theorem mv_cell (i : Nat) (u : Value) : Mv [c] [c] w (w.setCell ⟨c, i, none⟩ u) := (Mv.refl _ _).set_ (by simp) i u
end
end Go.Proofs.YtfmbadinfhpihaaGreat
namespace Go.Proofs.YtfmbadinfhpihaaGreat
open Go.RowKit Go.Maps

/-- An operation begins: does the power fail at it? -/
def opD (st : Dk) : Dk × Bool :=
  if st.fused = true then
    if 0 < st.left then (⟨st.on, true, st.left - 1, min (st.ops + 1) 4611686018427387904, st.fs⟩, false)
    else (⟨false, false, st.left, min (st.ops + 1) 4611686018427387904, st.fs⟩, true)
  else (⟨st.on, false, st.left, min (st.ops + 1) 4611686018427387904, st.fs⟩, false)
theorem opD_fs (st : Dk) : (opD st).1.fs = st.fs := by unfold opD; split <;> (try split) <;> rfl
theorem opD_ok {st : Dk} (h : st.Ok) : (opD st).1.Ok := by
  have h1 := h.ops0; have h2 := h.ops1; have h3 := h.left0; have h4 := h.left1
  have h5 : 0 ≤ min (st.ops + 1) 4611686018427387904 := by omega
  have h6 : min (st.ops + 1) 4611686018427387904 ≤ 4611686018427387904 := by omega
  unfold opD
  split
  · split
    · exact ⟨h.good, h5, h6, by show _ ≤ st.left - 1; omega, by show st.left - 1 ≤ _; omega, h.few, h.tot⟩
    · exact ⟨h.good, h5, h6, h3, h4, h.few, h.tot⟩
  · exact ⟨h.good, h5, h6, h3, h4, h.few, h.tot⟩

set_option maxHeartbeats 1000000 in
theorem op_any (c b : Nat) (st : Dk) (hok : st.Ok) (w : World) (h : DkAt c b st w) :
    Calls Tryz.prog 53 #[.pointer (some ⟨c, 0, none⟩)] w fun e w' => e = .returned (.bool (opD st).2) ∧ DkAt c b (opD st).1 w' ∧ Mv [c] [c] w w' := by
  obtain ⟨on, fused, left, ops, fs⟩ := st
  have h1 : 0 ≤ ops := hok.ops0
  have h2 : ops ≤ 4611686018427387904 := hok.ops1
  have h3 : -9223372036854775808 ≤ left := hok.left0
  have h4 : left ≤ 9223372036854775807 := hok.left1
  have c0 : w.cell? ⟨c, 0, none⟩ = some (.bool on) := h.cell0
  have c1 : w.cell? ⟨c, 1, none⟩ = some (.bool fused) := h.cell1
  have c2 : w.cell? ⟨c, 2, none⟩ = some (.int .i64 left) := h.cell2
  have c3 : w.cell? ⟨c, 3, none⟩ = some (.int .i64 ops) := h.cell3
  have f0 := h.frozen 0; have f1 := h.frozen 1; have f2 := h.frozen 2; have f3 := h.frozen 3
  have H := Lib.hid h
  clear h hok
  cases fused
  · have hr : opD ⟨on, false, left, ops, fs⟩ = (⟨on, false, left, min (ops + 1) 4611686018427387904, fs⟩, false) := by unfold opD; rw [if_neg (show ¬ (false = true) by decide)]
    rw [hr]
    clear hr
    go_enter Tryz.func53, Tryz.ntmps53
    go_wp2
    go_ret
    exact ⟨rfl, H.out.set3 _, mv_cell 3 _⟩
  · by_cases hl : 0 < left
    · have hr : opD ⟨on, true, left, ops, fs⟩ = (⟨on, true, left - 1, min (ops + 1) 4611686018427387904, fs⟩, false) := by unfold opD; rw [if_pos rfl, if_pos hl]
      rw [hr]
      clear hr
      go_enter Tryz.func53, Tryz.ntmps53
      go_wp2
      go_ret
      exact ⟨rfl, (H.out.set3 _).set2 _, (mv_cell 3 _).trans (mv_cell 2 _)⟩
    · have hr : opD ⟨on, true, left, ops, fs⟩ = (⟨false, false, left, min (ops + 1) 4611686018427387904, fs⟩, true) := by unfold opD; rw [if_pos rfl, if_neg hl]
      rw [hr]
      clear hr
      go_enter Tryz.func53, Tryz.ntmps53
      go_wp2
      go_ret
      exact ⟨rfl, ((H.out.set3 _).set0 _).set1 _, ((mv_cell 3 _).trans (mv_cell 0 _)).trans (mv_cell 1 _)⟩
theorem off_any (c b : Nat) (st : Dk) (w : World) (h : DkAt c b st w) :
    Calls Tryz.prog 52 #[.pointer (some ⟨c, 0, none⟩)] w fun e w' => e = .returned (.bool (!st.on)) ∧ w = w' := by
  have c0 := h.cell0
  clear h
  obtain ⟨on, fused, left, ops, fs⟩ := st
  cases on
  all_goals
    go_enter Tryz.func52, Tryz.ntmps52
    go_wp2
    go_ret
    exact ⟨rfl, rfl⟩
theorem off_nil (w : World) :
    Calls Tryz.prog 52 #[.pointer none] w fun e w' => e = .returned (.bool true) ∧ w = w' := by
  go_enter Tryz.func52, Tryz.ntmps52
  go_wp2
  go_ret
  exact ⟨rfl, rfl⟩
/-- What is done if there is power and it stays: 'wrong' tells ew in that disk, 'work' makes it st2. -/
def doD (st : Dk) (wrong : Dk → Int) (work : Dk → Dk) : Int × Dk :=
  if st.on = true then
    if (opD st).2 = true then (14, (opD st).1)
    else if wrong (opD st).1 = 0 then (0, work (opD st).1) else (wrong (opD st).1, (opD st).1)
  else (14, st)
set_option maxHeartbeats 1000000 in
theorem do_any (c b : Nat) (st : Dk) (hok : st.Ok) (w : World) (h : DkAt c b st w) (f g : Nat) (U V : Array Value) (wrong : Dk → Int) (work : Dk → Dk)
    (ef : ∀ w, (callFunc f U).run Tryz.prog w = .ok (.enter f U) w) (eg : ∀ w, (callFunc g V).run Tryz.prog w = .ok (.enter g V) w)
    (hf : ∀ w1, DkAt c b (opD st).1 w1 → Mv [c] [c] w w1 → Calls Tryz.prog f U w1 fun e w' => e = .returned (.int .i64 (wrong (opD st).1)) ∧ Below w1.heap.size w1 w')
    (hg : wrong (opD st).1 = 0 → ∀ w1, DkAt c b (opD st).1 w1 → Mv [c] [c] w w1 → Calls Tryz.prog g V w1 fun e w' => e = .returned (.tuple #[]) ∧ DkAt c b (work (opD st).1) w' ∧ Mv [b] [b] w1 w') :
    Calls Tryz.prog 58 #[.pointer (some ⟨c, 0, none⟩), .func (.func f) #[] U, .func (.func g) #[] V] w fun e w' => e = .returned (.int .i64 (doD st wrong work).1) ∧ DkAt c b (doD st wrong work).2 w' ∧ Mv [c, b] [c, b] w w' := by
  have H1 := Lib.hid (off_any c b st w h)
  have H2 := Lib.hid (op_any c b st hok w h)
  have HK := Lib.hid h
  have hlb := h.ltb
  have hmv : ∀ w1 w2, Mv [c] [c] w w1 → Below w1.heap.size w1 w2 → Mv [c, b] [c, b] w w2 := fun w1 w2 hm hb => (hm.then_below hb).wide (by simp)
  have hmk : ∀ w1 w2, Mv [c] [c] w w1 → Mv [b] [b] w1 w2 → Mv [c, b] [c, b] w w2 := fun w1 w2 hm hb => (hm.wide (T := [c, b]) (by simp)).trans (hb.wide (by simp))
  obtain ⟨x, hx⟩ : ∃ x, st.on = x := ⟨_, rfl⟩
  obtain ⟨st1, hs1⟩ : ∃ st1, (opD st).1 = st1 := ⟨_, rfl⟩
  obtain ⟨y, hy⟩ : ∃ y, (opD st).2 = y := ⟨_, rfl⟩
  obtain ⟨ew, hew⟩ : ∃ ew, wrong st1 = ew := ⟨_, rfl⟩
  unfold doD
  rw [hs1] at H2 hf hg ⊢
  rw [hy] at H2 ⊢
  rw [hx] at H1 ⊢
  rw [hew] at hf hg ⊢
  have HF := fun w1 h1 h2 => Lib.hid (hf w1 h1 h2)
  have HG := fun h0 w1 h1 h2 => Lib.hid (hg h0 w1 h1 h2)
  have HM := Lib.hid hmv
  have HMK := Lib.hid hmk
  clear h hok hf hg hmv hmk hs1 hy hx hew
  cases x
  · rw [if_neg (show ¬ (false = true) by decide)]
    go_enter Tryz.func58, Tryz.ntmps58
    go_wp2_with fail
    refine H1.out.mono ?_
    rintro e w1 ⟨rfl, rfl⟩
    go_wp2
    go_ret
    exact ⟨rfl, HK.out, Mv.refl _ _⟩
  · rw [if_pos rfl]
    cases y
    · rw [if_neg (show ¬ (false = true) by decide)]
      by_cases h0 : ew = 0
      · subst h0
        rw [if_pos rfl]
        go_enter Tryz.func58, Tryz.ntmps58
        go_wp2_with fail
        refine H1.out.mono ?_
        rintro e w1 ⟨rfl, rfl⟩
        go_wp2_with fail
        refine H2.out.mono ?_
        rintro e w1 ⟨rfl, h1, hm1⟩
        have HK1 := Lib.hid h1
        have HM1 := Lib.hid hm1
        have HF1 := HF w1 h1 hm1
        clear h1 hm1
        go_wp2_with fail
        refine HF1.out.mono ?_
        rintro e w2 ⟨rfl, hb2⟩
        have hk2 := HK1.out.below hb2 HK1.out.lt HK1.out.ltb
        have hm2 := HM1.out.then_below hb2
        have HG2 := HG (by first | trivial | rfl) w2 hk2 hm2
        have HM2 := Lib.hid hm2
        clear hk2 hm2 hb2
        go_wp2_with fail
        refine HG2.out.mono ?_
        rintro e w3 ⟨rfl, h3, hm3⟩
        have HK3 := Lib.hid h3
        have HM3 := Lib.hid (HMK.out _ _ HM2.out hm3)
        clear h3 hm3
        go_wp2
        go_ret
        exact ⟨rfl, HK3.out, HM3.out⟩
      · rw [if_neg h0]
        have hb0 : (ew == 0) = false := by simpa using h0
        go_enter Tryz.func58, Tryz.ntmps58
        go_wp2_with fail
        refine H1.out.mono ?_
        rintro e w1 ⟨rfl, rfl⟩
        go_wp2_with fail
        refine H2.out.mono ?_
        rintro e w1 ⟨rfl, h1, hm1⟩
        have HK1 := Lib.hid h1
        have HM1 := Lib.hid hm1
        have HF1 := HF w1 h1 hm1
        clear h1 hm1
        go_wp2_with fail
        refine HF1.out.mono ?_
        rintro e w2 ⟨rfl, hb2⟩
        have hk2 := HK1.out.below hb2 HK1.out.lt HK1.out.ltb
        have HK2 := Lib.hid hk2
        have HM2 := Lib.hid (HM.out _ _ HM1.out hb2)
        clear hk2 hb2
        go_wp2
        go_ret
        exact ⟨rfl, HK2.out, HM2.out⟩
    · rw [if_pos rfl]
      go_enter Tryz.func58, Tryz.ntmps58
      go_wp2_with fail
      refine H1.out.mono ?_
      rintro e w1 ⟨rfl, rfl⟩
      go_wp2_with fail
      refine H2.out.mono ?_
      rintro e w1 ⟨rfl, h1, hm1⟩
      have HK1 := Lib.hid h1
      have HM1 := Lib.hid (HM.out _ _ hm1 (Below.refl _ _))
      clear h1 hm1
      go_wp2
      go_ret
      exact ⟨rfl, HK1.out, HM1.out⟩
end Go.Proofs.YtfmbadinfhpihaaGreat
namespace Go.Proofs.YtfmbadinfhpihaaGreat
open Go.RowKit Go.Maps
set_option maxRecDepth 100000

theorem look_form {D : DataW Unit} (hg : GoodF D) (s : ByteArray) {v : Value} {ps : List MemPlace} (h : fileE v = some (D.atKey (kS s) (fileD ⟨#[]⟩ 0), ps)) : v = .agg #[.string (fileAt D s).1, .int .i64 (fileAt D s).2] := by
  rw [(fileAt_form hg s).1] at h
  obtain ⟨x, n, rfl, hz⟩ := fileE_inv h
  injection hz with h1 _
  obtain ⟨h2, h3⟩ := fileD_inj h1
  rw [h2, h3]
theorem run_look_ok {w : World} {b n : Nat} {D : DataW Unit} (h : w.ownsMap Tryz.prog 9 fileE b n D) (hg : GoodF D) {s : ByteArray} (hs : s.size ≤ 9223372036854775807) :
    (Instr.lookup 45 (.map (some b)) (.string s) true).run Tryz.prog w = .ok (.tuple #[.agg #[.string (fileAt D s).1, .int .i64 (fileAt D s).2], .bool (hasS D s)]) w := by
  obtain ⟨v, ps, hrun, hv⟩ := h.look_ok keyT Tryz.underlying45 (zeroF w) (fileE_mk ⟨#[]⟩ 0) (key_str hs)
  rw [look_form hg s hv] at hrun
  exact hrun
theorem run_look {w : World} {b n : Nat} {D : DataW Unit} (h : w.ownsMap Tryz.prog 9 fileE b n D) (hg : GoodF D) {s : ByteArray} (hs : s.size ≤ 9223372036854775807) :
    (Instr.lookup 45 (.map (some b)) (.string s) false).run Tryz.prog w = .ok (.agg #[.string (fileAt D s).1, .int .i64 (fileAt D s).2]) w := by
  obtain ⟨v, ps, hrun, hv⟩ := h.lookup keyT Tryz.underlying45 (zeroF w) (fileE_mk ⟨#[]⟩ 0) (key_str hs)
  rw [look_form hg s hv] at hrun
  exact hrun

def validB (s : ByteArray) : Bool := decide (0 < s.size ∧ s.size ≤ 40)
theorem valid_any (s : ByteArray) (w : World) :
    Calls Tryz.prog 60 #[.string s] w fun e w' => e = .returned (.bool (validB s)) ∧ w = w' := by
  by_cases h0 : s.size = 0
  · have hs : validB s = false := by unfold validB; rw [decide_eq_false (by omega)]
    obtain rfl : s = ⟨#[]⟩ := by
      obtain ⟨⟨l⟩⟩ := s
      have : l = [] := List.eq_nil_of_length_eq_zero h0
      rw [this]
    rw [hs]
    clear hs h0
    go_enter Tryz.func60, Tryz.ntmps60
    go_wp2
    go_ret
    exact ⟨rfl, rfl⟩
  · have hne : s.toList.isEmpty = false := by
      rw [ByteArray.toList_eq]
      cases h : s.data.toList with
      | nil => exact absurd (by have := len_data s; rw [h] at this; exact this.symm) h0
      | cons a l => rfl
    by_cases h12 : s.size ≤ 40
    · have hs : validB s = true := by unfold validB; rw [decide_eq_true (by omega)]
      have hd : decide ((s.size : Int) ≤ 40) = true := decide_eq_true (by omega)
      rw [hs]
      clear hs
      go_enter Tryz.func60, Tryz.ntmps60
      go_wp2
      go_ret
      exact ⟨rfl, rfl⟩
    · have hs : validB s = false := by unfold validB; rw [decide_eq_false (by omega)]
      have hd : decide ((s.size : Int) ≤ 40) = false := decide_eq_false (by omega)
      rw [hs]
      clear hs
      go_enter Tryz.func60, Tryz.ntmps60
      go_wp2
      go_ret
      exact ⟨rfl, rfl⟩
def lacksD (st : Dk) (s : ByteArray) : Int := if hasS st.fs s = true then 0 else 7
theorem lacks_any (c b : Nat) (st : Dk) (hg : GoodF st.fs) (s : ByteArray) (hs : s.size ≤ 9223372036854775807) (w : World) (h : DkAt c b st w) :
    Calls Tryz.prog 54 #[.pointer (some ⟨c, 0, none⟩), .string s] w fun e w' => e = .returned (.int .i64 (lacksD st s)) ∧ Below w.heap.size w w' := by
  have c4 := h.cell4
  have hl := run_look_ok h.2.1 hg hs
  unfold lacksD
  obtain ⟨x, hx⟩ : ∃ x, hasS st.fs s = x := ⟨_, rfl⟩
  obtain ⟨y, hy⟩ : ∃ y, fileAt st.fs s = y := ⟨_, rfl⟩
  rw [hx, hy] at hl
  rw [hx]
  clear h hx hy
  cases x
  · rw [if_neg (show ¬ (false = true) by decide)]
    go_enter Tryz.func54, Tryz.ntmps54
    go_wp2
    go_ret
    exact ⟨rfl, (Below.refl _ _).alloc (Nat.le_refl _) _⟩
  · rw [if_pos rfl]
    go_enter Tryz.func54, Tryz.ntmps54
    go_wp2
    go_ret
    exact ⟨rfl, (Below.refl _ _).alloc (Nat.le_refl _) _⟩

/-- What the closures have: the disk's pointer and a name, each in a block of its own. -/
def Caught (p q c : Nat) (s : ByteArray) (w : World) : Prop := w.cell? ⟨p, 0, none⟩ = some (.pointer (some ⟨c, 0, none⟩)) ∧ w.cell? ⟨q, 0, none⟩ = some (.string s)
theorem cell_lt {w : World} {p : Nat} {v : Value} (h : w.cell? ⟨p, 0, none⟩ = some v) : p < w.heap.size := by
  rcases Nat.lt_or_ge p w.heap.size with h1 | h1
  · exact h1
  · exfalso
    have : w.heap[p]? = none := Array.getElem?_eq_none h1
    simp [World.cell?, this] at h

def createW (st : Dk) (s : ByteArray) : Int := if validB s = true then (if hasS st.fs s = true then 8 else if 40 ≤ Maps.size st.fs then 10 else 0) else 9
set_option maxHeartbeats 1000000 in
theorem create1_any (c b p q : Nat) (st : Dk) (hok : st.Ok) (s : ByteArray) (hs : s.size ≤ 9223372036854775807) (w : World) (h : DkAt c b st w) (hc : Caught p q c s w) :
    Calls Tryz.prog 59 #[.pointer (some ⟨p, 0, none⟩), .pointer (some ⟨q, 0, none⟩)] w fun e w' => e = .returned (.int .i64 (createW st s)) ∧ Below w.heap.size w w' := by
  obtain ⟨cp, cq⟩ := hc
  have hplt := cell_lt cp
  have hqlt := cell_lt cq
  have hclt := h.lt
  have hblt := h.ltb
  have c4 := h.cell4
  have hl := fun (W : World) (e : W.heap[b]? = w.heap[b]?) => run_look_ok (own_keep h.2.1 e) hok.good hs
  have hn := fun (W : World) (e : W.heap[b]? = w.heap[b]?) => (own_keep h.2.1 e).len Tryz.underlying45
  have hfew := hok.few
  have hv := valid_any s
  unfold createW
  obtain ⟨n, hn9⟩ : ∃ n, Maps.size st.fs = n := ⟨_, rfl⟩
  obtain ⟨x, hx⟩ : ∃ x, hasS st.fs s = x := ⟨_, rfl⟩
  obtain ⟨y, hy⟩ : ∃ y, fileAt st.fs s = y := ⟨_, rfl⟩
  obtain ⟨z, hz⟩ : ∃ z, validB s = z := ⟨_, rfl⟩
  rw [hn9] at hn hfew
  simp only [hx, hy] at hl
  rw [hz] at hv
  rw [hx, hz, hn9]
  have HV := fun w => Lib.hid (hv w)
  clear h hx hy hz hv hn9
  have hl1 := hl ((w.alloc (.cells #[.string ⟨#[]⟩, .int .i64 0] 108)).drew) (Below.heap_alloc w _ b hblt)
  have hl0 := hl w.drew rfl
  clear hl
  have HB : Hid (Below w.heap.size w (w.alloc (.cells #[.string y.1, .int .i64 y.2] 108)).drew) := by
    show Below _ _ _
    exact ((Below.refl w.heap.size w).alloc (Nat.le_refl _) _).drew
  have hn1 := hn ((w.alloc (.cells #[.string y.1, .int .i64 y.2] 108)).drew) (Below.heap_alloc w _ b hblt)
  have cp1 : ((w.alloc (.cells #[.string y.1, .int .i64 y.2] 108)).drew).cell? ⟨p, 0, none⟩ = some (.pointer (some ⟨c, 0, none⟩)) := (World.cell?_alloc_lt _ _ _ hplt).trans cp
  have cq1 : ((w.alloc (.cells #[.string y.1, .int .i64 y.2] 108)).drew).cell? ⟨q, 0, none⟩ = some (.string s) := (World.cell?_alloc_lt _ _ _ hqlt).trans cq
  have c41 : ((w.alloc (.cells #[.string y.1, .int .i64 y.2] 108)).drew).cell? ⟨c, 4, none⟩ = some (.map (some b)) := (World.cell?_alloc_lt _ _ _ hclt).trans c4
  clear hn
  cases z
  · rw [if_neg (show ¬ (false = true) by decide)]
    go_enter Tryz.func59, Tryz.ntmps59
    go_wp2
    go_region_held3 (fun W => W.cell? ⟨p, 0, none⟩ = some (.pointer (some ⟨c, 0, none⟩)) ∧ W.cell? ⟨q, 0, none⟩ = some (.string s) ∧ W.cell? ⟨c, 4, none⟩ = some (.map (some b)))
      (first | exact ⟨cp, cq, c4⟩ | exact ⟨(World.cell?_alloc_lt _ _ _ hplt).trans cp, (World.cell?_alloc_lt _ _ _ hqlt).trans cq, (World.cell?_alloc_lt _ _ _ hclt).trans c4⟩ | go_keep)
      (fail)
    all_goals
      go_wp2_with fail
      refine (HV _).out.mono ?_
      rintro e w1 ⟨rfl, rfl⟩
      go_wp2
      go_ret
      exact ⟨rfl, HB.out⟩
  · rw [if_pos rfl]
    cases x
    · rw [if_neg (show ¬ (false = true) by decide)]
      by_cases h40 : 40 ≤ n
      · rw [if_pos h40]
        go_enter Tryz.func59, Tryz.ntmps59
        go_wp2
        go_region_held3 (fun W => W.cell? ⟨p, 0, none⟩ = some (.pointer (some ⟨c, 0, none⟩)) ∧ W.cell? ⟨q, 0, none⟩ = some (.string s) ∧ W.cell? ⟨c, 4, none⟩ = some (.map (some b)))
          (first | exact ⟨cp, cq, c4⟩ | exact ⟨(World.cell?_alloc_lt _ _ _ hplt).trans cp, (World.cell?_alloc_lt _ _ _ hqlt).trans cq, (World.cell?_alloc_lt _ _ _ hclt).trans c4⟩ | go_keep)
          (fail)
        all_goals
          go_wp2_with fail
          refine (HV _).out.mono ?_
          rintro e w1 ⟨rfl, rfl⟩
          go_wp2
          go_ret
          exact ⟨rfl, HB.out⟩
      · rw [if_neg h40]
        go_enter Tryz.func59, Tryz.ntmps59
        go_wp2
        go_region_held3 (fun W => W.cell? ⟨p, 0, none⟩ = some (.pointer (some ⟨c, 0, none⟩)) ∧ W.cell? ⟨q, 0, none⟩ = some (.string s) ∧ W.cell? ⟨c, 4, none⟩ = some (.map (some b)))
          (first | exact ⟨cp, cq, c4⟩ | exact ⟨(World.cell?_alloc_lt _ _ _ hplt).trans cp, (World.cell?_alloc_lt _ _ _ hqlt).trans cq, (World.cell?_alloc_lt _ _ _ hclt).trans c4⟩ | go_keep)
          (fail)
        all_goals
          go_wp2_with fail
          refine (HV _).out.mono ?_
          rintro e w1 ⟨rfl, rfl⟩
          go_wp2
          go_ret
          exact ⟨rfl, HB.out⟩
    · rw [if_pos rfl]
      go_enter Tryz.func59, Tryz.ntmps59
      go_wp2
      go_region_held3 (fun W => W.cell? ⟨p, 0, none⟩ = some (.pointer (some ⟨c, 0, none⟩)) ∧ W.cell? ⟨q, 0, none⟩ = some (.string s) ∧ W.cell? ⟨c, 4, none⟩ = some (.map (some b)))
        (first | exact ⟨cp, cq, c4⟩ | exact ⟨(World.cell?_alloc_lt _ _ _ hplt).trans cp, (World.cell?_alloc_lt _ _ _ hqlt).trans cq, (World.cell?_alloc_lt _ _ _ hclt).trans c4⟩ | go_keep)
        (fail)
      all_goals
        go_wp2_with fail
        refine (HV _).out.mono ?_
        rintro e w1 ⟨rfl, rfl⟩
        go_wp2
        go_ret
        exact ⟨rfl, HB.out⟩
end Go.Proofs.YtfmbadinfhpihaaGreat
namespace Go.Proofs.YtfmbadinfhpihaaGreat
open Go.RowKit Go.Maps
set_option maxRecDepth 100000

theorem ne_map {w : World} {b n p : Nat} {D : DataW Unit} {v : Value} (h : w.ownsMap Tryz.prog 9 fileE b n D) (hc : w.cell? ⟨p, 0, none⟩ = some v) : p ≠ b := by
  rintro rfl
  obtain ⟨es, clock, h1, _⟩ := h
  simp [World.cell?, h1] at hc
def Dk.with (st : Dk) (fs : DataW Unit) : Dk := ⟨st.on, st.fused, st.left, st.ops, fs⟩
theorem DkAt.turned {c b n : Nat} {st : Dk} {w w' : World} {fs : DataW Unit} (h : DkAt c b st w) (hc : w'.heap[c]? = w.heap[c]?) (hown : w'.ownsMap Tryz.prog 9 fileE b n fs) : DkAt c b (st.with fs) w' :=
  ⟨hc.trans h.1, own_tight hown, h.2.2⟩
theorem Mv.of_grown {b : Nat} {w w' : World} (h : w.grownBy w' (some b)) : Mv [b] [b] w w' := (Mv.refl [b] w).grown h (fun k e => by injection e with e; simp [e]) (fun k e => .inl e)

set_option maxHeartbeats 1000000 in
theorem create2_any (c b p q : Nat) (st : Dk) (hok : st.Ok) (s : ByteArray) (hs : s.size ≤ 1000000) (w : World) (h : DkAt c b st w) (hc : Caught p q c s w) :
    Calls Tryz.prog 61 #[.pointer (some ⟨p, 0, none⟩), .pointer (some ⟨q, 0, none⟩)] w fun e w' => e = .returned (.tuple #[]) ∧ DkAt c b (st.with (putF st.fs s ⟨#[]⟩ 0)) w' ∧ Mv [b] [b] w w' := by
  obtain ⟨cp, cq⟩ := hc
  have hplt := cell_lt cp
  have hqlt := cell_lt cq
  have hpb := ne_map h.2.1 cp
  have hqb := ne_map h.2.1 cq
  have hcb := h.2.2
  have hclt := h.lt
  have hblt := h.ltb
  have c4 := h.cell4
  have hfew := hok.few
  have HOwn := Lib.hid h.2.1
  have H := Lib.hid h
  clear h
  go_enter Tryz.func61, Tryz.ntmps61
  go_region_held3 (fun W => W.cell? ⟨p, 0, none⟩ = some (.pointer (some ⟨c, 0, none⟩)) ∧ W.cell? ⟨q, 0, none⟩ = some (.string s) ∧ W.cell? ⟨c, 4, none⟩ = some (.map (some b)))
    (first
      | exact ⟨cp, cq, c4⟩
      | exact ⟨(hb2.cell (show (⟨p, 0, none⟩ : Addr).block < _ from hplt)).trans cp, (hb2.cell (show (⟨q, 0, none⟩ : Addr).block < _ from hqlt)).trans cq, (hb2.cell (show (⟨c, 4, none⟩ : Addr).block < _ from hclt)).trans c4⟩
      | exact ⟨(World.cell?_of_block (a := ⟨p, 0, none⟩) (hgrow3.block p (Nat.lt_of_lt_of_le hplt hb2.size) (fun e => hpb (by injection e)))).trans ((hb2.cell (show (⟨p, 0, none⟩ : Addr).block < _ from hplt)).trans cp), (World.cell?_of_block (a := ⟨q, 0, none⟩) (hgrow3.block q (Nat.lt_of_lt_of_le hqlt hb2.size) (fun e => hqb (by injection e)))).trans ((hb2.cell (show (⟨q, 0, none⟩ : Addr).block < _ from hqlt)).trans cq), (World.cell?_of_block (a := ⟨c, 4, none⟩) (hgrow3.block c (Nat.lt_of_lt_of_le hclt hb2.size) (fun e => hcb (by injection e)))).trans ((hb2.cell (show (⟨c, 4, none⟩ : Addr).block < _ from hclt)).trans c4)⟩)
    (first | (go_at_call 39; refine (clone_any s _ (by omega)).mono ?_; rintro e w2 ⟨rfl, hb2⟩; obtain ⟨w3, hrun, hown3, hgrow3⟩ := (own_keep HOwn.out (hb2.block b hblt)).update keyT Tryz.underlying45 (by unfold maxLen; omega) (key_str (s := s) (by omega)) (fileE_mk ⟨#[]⟩ 0)))
  go_end0
  refine ⟨rfl, H.out.turned ((hgrow3.block c (Nat.lt_of_lt_of_le hclt hb2.size) (fun e => hcb (by injection e))).trans (hb2.block c hclt)) hown3, ?_⟩
  exact (Mv.of_new (S := [b]) (S' := [b]) ((Below.refl w.heap.size w).drew.trans hb2) (fun k hk => .inl hk)).trans (Mv.of_grown hgrow3)
theorem lacks1_any (c b p q : Nat) (st : Dk) (hok : st.Ok) (s : ByteArray) (hs : s.size ≤ 9223372036854775807) (w : World) (h : DkAt c b st w) (hc : Caught p q c s w) :
    Calls Tryz.prog 159 #[.pointer (some ⟨p, 0, none⟩), .pointer (some ⟨q, 0, none⟩)] w fun e w' => e = .returned (.int .i64 (lacksD st s)) ∧ Below w.heap.size w w' := by
  obtain ⟨cp, cq⟩ := hc
  have HL := Lib.hid (lacks_any c b st hok.good s hs w h)
  clear h
  go_enter Tryz.func159, Tryz.ntmps159
  go_wp2_with fail
  refine HL.out.mono ?_
  rintro e w1 ⟨rfl, hb⟩
  have HB := Lib.hid hb
  clear hb
  go_wp2
  go_ret
  exact ⟨rfl, HB.out⟩
theorem lacks2_any (c b p q : Nat) (st : Dk) (hok : st.Ok) (s : ByteArray) (hs : s.size ≤ 9223372036854775807) (w : World) (h : DkAt c b st w) (hc : Caught p q c s w) :
    Calls Tryz.prog 234 #[.pointer (some ⟨p, 0, none⟩), .pointer (some ⟨q, 0, none⟩)] w fun e w' => e = .returned (.int .i64 (lacksD st s)) ∧ Below w.heap.size w w' := by
  obtain ⟨cp, cq⟩ := hc
  have HL := Lib.hid (lacks_any c b st hok.good s hs w h)
  clear h
  go_enter Tryz.func234, Tryz.ntmps234
  go_wp2_with fail
  refine HL.out.mono ?_
  rintro e w1 ⟨rfl, hb⟩
  have HB := Lib.hid hb
  clear hb
  go_wp2
  go_ret
  exact ⟨rfl, HB.out⟩

set_option maxHeartbeats 1000000 in
theorem remove2_any (c b p q : Nat) (st : Dk) (s : ByteArray) (hs : s.size ≤ 9223372036854775807) (w : World) (h : DkAt c b st w) (hc : Caught p q c s w) :
    Calls Tryz.prog 235 #[.pointer (some ⟨p, 0, none⟩), .pointer (some ⟨q, 0, none⟩)] w fun e w' => e = .returned (.tuple #[]) ∧ DkAt c b (st.with (delF st.fs s)) w' ∧ Mv [b] [b] w w' := by
  obtain ⟨cp, cq⟩ := hc
  have hplt := cell_lt cp
  have hqlt := cell_lt cq
  have hpb := ne_map h.2.1 cp
  have hqb := ne_map h.2.1 cq
  have hcb := h.2.2
  have hclt := h.lt
  have hblt := h.ltb
  have c4 := h.cell4
  have hrun0 := fun ty => (show (w.drew).ownsMap Tryz.prog 9 fileE b (Maps.size st.fs) st.fs from h.2.1).drop keyT Tryz.underlying45 (key_str hs) ty
  have H := Lib.hid h
  clear h
  obtain ⟨w3, hrun3, hown3, hturn3⟩ := hrun0 0
  clear hrun0
  have hgrow3 := hturn3.grown
  go_enter Tryz.func235, Tryz.ntmps235
  go_region_held3 (fun W => W.cell? ⟨p, 0, none⟩ = some (.pointer (some ⟨c, 0, none⟩)) ∧ W.cell? ⟨q, 0, none⟩ = some (.string s) ∧ W.cell? ⟨c, 4, none⟩ = some (.map (some b)))
    (first
      | exact ⟨cp, cq, c4⟩
      | exact ⟨(World.cell?_of_block (a := ⟨p, 0, none⟩) (hgrow3.block p hplt (fun e => hpb (by injection e)))).trans cp, (World.cell?_of_block (a := ⟨q, 0, none⟩) (hgrow3.block q hqlt (fun e => hqb (by injection e)))).trans cq, (World.cell?_of_block (a := ⟨c, 4, none⟩) (hgrow3.block c hclt (fun e => hcb (by injection e)))).trans c4⟩)
    (fail)
  go_end0
  exact ⟨rfl, H.out.turned (hgrow3.block c hclt (fun e => hcb (by injection e))) hown3, ((Mv.refl [b] w).drewN 1).trans (Mv.of_grown hgrow3)⟩
end Go.Proofs.YtfmbadinfhpihaaGreat
namespace Go.Proofs.YtfmbadinfhpihaaGreat
open Go.RowKit Go.Maps
set_option maxRecDepth 100000

set_option maxHeartbeats 1000000 in
theorem sync2_any (c b p q : Nat) (st : Dk) (hok : st.Ok) (s : ByteArray) (hs : s.size ≤ 9223372036854775807) (w : World) (h : DkAt c b st w) (hc : Caught p q c s w) :
    Calls Tryz.prog 160 #[.pointer (some ⟨p, 0, none⟩), .pointer (some ⟨q, 0, none⟩)] w fun e w' => e = .returned (.tuple #[]) ∧ DkAt c b (st.with (putF st.fs s (fileAt st.fs s).1 ((fileAt st.fs s).1.size : Nat))) w' ∧ Mv [b] [b] w w' := by
  obtain ⟨cp, cq⟩ := hc
  have hplt := cell_lt cp
  have hqlt := cell_lt cq
  have hpb := ne_map h.2.1 cp
  have hqb := ne_map h.2.1 cq
  have hcb := h.2.2
  have hclt := h.lt
  have hblt := h.ltb
  have c4 := h.cell4
  have hfew := hok.few
  have hyl : (fileAt st.fs s).1.size ≤ 1000000000 := Nat.le_trans (fileAt_le hok.good s) hok.tot
  have hl := fun (W : World) (e : W.heap[b]? = w.heap[b]?) => run_look (own_keep h.2.1 e) hok.good hs
  obtain ⟨y, hy⟩ : ∃ y, fileAt st.fs s = y := ⟨_, rfl⟩
  rw [hy] at hl hyl ⊢
  clear hy
  have hl0 := hl w.drew rfl
  have hl1 := hl ((w.alloc (.cells #[.string ⟨#[]⟩, .int .i64 0] 108)).drew) (Below.heap_alloc w _ b hblt)
  clear hl
  have H := Lib.hid h
  clear h
  go_enter Tryz.func160, Tryz.ntmps160
  go_wp2
  go_region_held3 (fun W => W.cell? ⟨p, 0, none⟩ = some (.pointer (some ⟨c, 0, none⟩)) ∧ W.cell? ⟨q, 0, none⟩ = some (.string s) ∧ W.cell? ⟨c, 4, none⟩ = some (.map (some b)))
    (first | exact ⟨cp, cq, c4⟩ | exact ⟨(World.cell?_alloc_lt _ _ _ hplt).trans cp, (World.cell?_alloc_lt _ _ _ hqlt).trans cq, (World.cell?_alloc_lt _ _ _ hclt).trans c4⟩ | go_keep)
    (fail)
  all_goals
    go_wp2
    obtain ⟨W2, HW2⟩ : ∃ W2, Hid ((w.alloc (.cells #[.string y.1, .int .i64 (y.1.size : Nat)] 108)).drew = W2) := ⟨_, rfl⟩
    have cp2 : W2.cell? ⟨p, 0, none⟩ = some (.pointer (some ⟨c, 0, none⟩)) := by rw [← HW2.out]; exact (World.cell?_alloc_lt _ _ _ hplt).trans cp
    have cq2 : W2.cell? ⟨q, 0, none⟩ = some (.string s) := by rw [← HW2.out]; exact (World.cell?_alloc_lt _ _ _ hqlt).trans cq
    have c42 : W2.cell? ⟨c, 4, none⟩ = some (.map (some b)) := by rw [← HW2.out]; exact (World.cell?_alloc_lt _ _ _ hclt).trans c4
    have cf0 : W2.cell? ⟨w.heap.size, 0, none⟩ = some (.string y.1) := by rw [← HW2.out]; show (w.alloc _).cell? _ = _; rw [Lib.cell_of_heap (heap_alloc_new w _)]; rfl
    have cf1 : W2.cell? ⟨w.heap.size, 1, none⟩ = some (.int .i64 (y.1.size : Nat)) := by rw [← HW2.out]; show (w.alloc _).cell? _ = _; rw [Lib.cell_of_heap (heap_alloc_new w _)]; rfl
    have hsz2 : W2.heap.size = w.heap.size + 1 := by rw [← HW2.out]; simp
    have HK2 : Hid (DkAt c b st W2) := by show DkAt _ _ _ _; rw [← HW2.out]; exact H.out.alloc _
    have HM2 : Hid (Mv [b] [b] w W2) := by show Mv _ _ _ _; rw [← HW2.out]; exact ((Mv.refl [b] w).alloc _).drewN 1
    rw [HW2.out]
    clear hl0 hl1 cp cq c4 H HW2
    obtain ⟨w3, hrun, hown3, hgrow3⟩ := (show (W2.drew).ownsMap Tryz.prog 9 fileE b (Maps.size st.fs) st.fs from HK2.out.2.1).update keyT Tryz.underlying45 (by unfold maxLen; omega) (key_str hs) (fileE_mk y.1 (y.1.size : Nat))
    have k3 : ∀ (k i : Nat) (v : Value), k < W2.heap.size → k ≠ b → W2.cell? ⟨k, i, none⟩ = some v → w3.cell? ⟨k, i, none⟩ = some v := fun k i v h1 h2 h3 => (World.cell?_of_block (a := ⟨k, i, none⟩) (hgrow3.block k h1 (fun e => h2 (by injection e)))).trans h3
    go_region_held3 (fun W => W.cell? ⟨p, 0, none⟩ = some (.pointer (some ⟨c, 0, none⟩)) ∧ W.cell? ⟨q, 0, none⟩ = some (.string s) ∧ W.cell? ⟨c, 4, none⟩ = some (.map (some b)) ∧ W.cell? ⟨w.heap.size, 0, none⟩ = some (.string y.1) ∧ W.cell? ⟨w.heap.size, 1, none⟩ = some (.int .i64 (y.1.size : Nat)))
      (first | exact ⟨cp2, cq2, c42, cf0, cf1⟩ | exact ⟨k3 _ _ _ (by omega) hpb cp2, k3 _ _ _ (by omega) hqb cq2, k3 _ _ _ (by omega) hcb c42, k3 _ _ _ (by omega) (by omega) cf0, k3 _ _ _ (by omega) (by omega) cf1⟩)
      (fail)
    go_end0
    exact ⟨rfl, HK2.out.turned (hgrow3.block c (by show c < W2.heap.size; omega) (fun e => hcb (by injection e))) hown3, (HM2.out.drewN 1).trans (Mv.of_grown hgrow3)⟩

set_option maxHeartbeats 1000000 in
theorem rename2_any (c b p q r : Nat) (st : Dk) (hok : st.Ok) (s t : ByteArray) (hs : s.size ≤ 9223372036854775807) (ht : t.size ≤ 1000000) (w : World) (h : DkAt c b st w) (hc : Caught p q c s w) (cr : w.cell? ⟨r, 0, none⟩ = some (.string t)) :
    Calls Tryz.prog 215 #[.pointer (some ⟨p, 0, none⟩), .pointer (some ⟨q, 0, none⟩), .pointer (some ⟨r, 0, none⟩)] w fun e w' => e = .returned (.tuple #[]) ∧ DkAt c b (st.with (putF (delF st.fs s) t (fileAt st.fs s).1 (fileAt st.fs s).2)) w' ∧ Mv [b] [b] w w' := by
  obtain ⟨cp, cq⟩ := hc
  have hplt := cell_lt cp
  have hqlt := cell_lt cq
  have hrlt := cell_lt cr
  have hpb := ne_map h.2.1 cp
  have hqb := ne_map h.2.1 cq
  have hrb := ne_map h.2.1 cr
  have hcb := h.2.2
  have hclt := h.lt
  have hblt := h.ltb
  have c4 := h.cell4
  have hfew := hok.few
  have hsd := sizeF_del hok.good s
  have hl := fun (W : World) (e : W.heap[b]? = w.heap[b]?) => run_look (own_keep h.2.1 e) hok.good hs
  obtain ⟨y, hy⟩ : ∃ y, fileAt st.fs s = y := ⟨_, rfl⟩
  rw [hy] at hl ⊢
  clear hy
  have hl0 := hl w.drew rfl
  have hl1 := hl ((w.alloc (.cells #[.string ⟨#[]⟩, .int .i64 0] 108)).drew) (Below.heap_alloc w _ b hblt)
  clear hl
  have H := Lib.hid h
  clear h
  go_enter Tryz.func215, Tryz.ntmps215
  go_wp2
  go_region_held3 (fun W => W.cell? ⟨p, 0, none⟩ = some (.pointer (some ⟨c, 0, none⟩)) ∧ W.cell? ⟨q, 0, none⟩ = some (.string s) ∧ W.cell? ⟨c, 4, none⟩ = some (.map (some b)))
    (first | exact ⟨cp, cq, c4⟩ | exact ⟨(World.cell?_alloc_lt _ _ _ hplt).trans cp, (World.cell?_alloc_lt _ _ _ hqlt).trans cq, (World.cell?_alloc_lt _ _ _ hclt).trans c4⟩ | go_keep)
    (fail)
  all_goals
    obtain ⟨W2, HW2⟩ : ∃ W2, Hid ((w.alloc (.cells #[.string y.1, .int .i64 y.2] 108)).drew = W2) := ⟨_, rfl⟩
    have cp2 : W2.cell? ⟨p, 0, none⟩ = some (.pointer (some ⟨c, 0, none⟩)) := by rw [← HW2.out]; exact (World.cell?_alloc_lt _ _ _ hplt).trans cp
    have cq2 : W2.cell? ⟨q, 0, none⟩ = some (.string s) := by rw [← HW2.out]; exact (World.cell?_alloc_lt _ _ _ hqlt).trans cq
    have cr2 : W2.cell? ⟨r, 0, none⟩ = some (.string t) := by rw [← HW2.out]; exact (World.cell?_alloc_lt _ _ _ hrlt).trans cr
    have c42 : W2.cell? ⟨c, 4, none⟩ = some (.map (some b)) := by rw [← HW2.out]; exact (World.cell?_alloc_lt _ _ _ hclt).trans c4
    have cf0 : W2.cell? ⟨w.heap.size, 0, none⟩ = some (.string y.1) := by rw [← HW2.out]; show (w.alloc _).cell? _ = _; rw [Lib.cell_of_heap (heap_alloc_new w _)]; rfl
    have cf1 : W2.cell? ⟨w.heap.size, 1, none⟩ = some (.int .i64 y.2) := by rw [← HW2.out]; show (w.alloc _).cell? _ = _; rw [Lib.cell_of_heap (heap_alloc_new w _)]; rfl
    have hsz2 : W2.heap.size = w.heap.size + 1 := by rw [← HW2.out]; simp
    have HK2 : Hid (DkAt c b st W2) := by show DkAt _ _ _ _; rw [← HW2.out]; exact H.out.alloc _
    have HM2 : Hid (Mv [b] [b] w W2) := by show Mv _ _ _ _; rw [← HW2.out]; exact ((Mv.refl [b] w).alloc _).drewN 1
    rw [HW2.out]
    clear hl0 hl1 cp cq cr c4 H HW2
    obtain ⟨w3, hrun3, hown3, hturn3⟩ := (show (W2.drew).ownsMap Tryz.prog 9 fileE b (Maps.size st.fs) st.fs from HK2.out.2.1).drop keyT Tryz.underlying45 (key_str hs) 0
    have hgrow3 := hturn3.grown
    have k3 : ∀ (k i : Nat) (v : Value), k < W2.heap.size → k ≠ b → W2.cell? ⟨k, i, none⟩ = some v → w3.cell? ⟨k, i, none⟩ = some v := fun k i v h1 h2 h3 => (World.cell?_of_block (a := ⟨k, i, none⟩) (hgrow3.block k h1 (fun e => h2 (by injection e)))).trans h3
    go_wp2
    go_region_held3 (fun W => W.cell? ⟨p, 0, none⟩ = some (.pointer (some ⟨c, 0, none⟩)) ∧ W.cell? ⟨q, 0, none⟩ = some (.string s) ∧ W.cell? ⟨c, 4, none⟩ = some (.map (some b)))
      (first | exact ⟨cp2, cq2, c42⟩ | exact ⟨k3 _ _ _ (by omega) hpb cp2, k3 _ _ _ (by omega) hqb cq2, k3 _ _ _ (by omega) hcb c42⟩)
      (fail)
    have cp3 := k3 _ _ _ (by omega) hpb cp2
    have cr3 := k3 _ _ _ (by omega) hrb cr2
    have c43 := k3 _ _ _ (by omega) hcb c42
    have cf03 := k3 _ _ _ (by omega) (by omega) cf0
    have cf13 := k3 _ _ _ (by omega) (by omega) cf1
    have HK3 : Hid (DkAt c b (st.with (delF st.fs s)) w3) := by show DkAt _ _ _ _; exact HK2.out.turned (hgrow3.block c (by show c < W2.heap.size; omega) (fun e => hcb (by injection e))) hown3
    have HM3 : Hid (Mv [b] [b] w w3) := by show Mv _ _ _ _; exact (HM2.out.drewN 1).trans (Mv.of_grown hgrow3)
    have hsz3 : W2.heap.size ≤ w3.heap.size := hgrow3.size
    clear hrun3 hown3 hturn3 hgrow3 k3 cp2 cq2 cr2 c42 cf0 cf1 HK2 HM2
    go_wp2
    go_region_held3 (fun W => W.cell? ⟨p, 0, none⟩ = some (.pointer (some ⟨c, 0, none⟩)) ∧ W.cell? ⟨r, 0, none⟩ = some (.string t) ∧ W.cell? ⟨c, 4, none⟩ = some (.map (some b)) ∧ W.cell? ⟨w.heap.size, 0, none⟩ = some (.string y.1) ∧ W.cell? ⟨w.heap.size, 1, none⟩ = some (.int .i64 y.2))
      (first
        | exact ⟨cp3, cr3, c43, cf03, cf13⟩
        | exact ⟨k4 _ _ _ (by omega) cp3, k4 _ _ _ (by omega) cr3, k4 _ _ _ (by omega) c43, k4 _ _ _ (by omega) cf03, k4 _ _ _ (by omega) cf13⟩
        | exact ⟨k5 _ _ _ (by omega) hpb cp3, k5 _ _ _ (by omega) hrb cr3, k5 _ _ _ (by omega) hcb c43, k5 _ _ _ (by omega) (by omega) cf03, k5 _ _ _ (by omega) (by omega) cf13⟩)
      (first | (go_at_call 39; refine (clone_any t _ (by omega)).mono ?_; rintro e w4 ⟨rfl, hb4⟩; obtain ⟨w5, hrun5, hown5, hgrow5⟩ := (own_keep HK3.out.2.1 (hb4.block b HK3.out.ltb)).update keyT Tryz.underlying45 (by unfold maxLen; show Maps.size (delF st.fs s) < _; omega) (key_str (s := t) (by omega)) (fileE_mk y.1 y.2); have k4 : ∀ (k i : Nat) (v : Value), k < w3.heap.size → w3.cell? ⟨k, i, none⟩ = some v → w4.cell? ⟨k, i, none⟩ = some v := (fun k i v h1 h3 => (hb4.cell (show (⟨k, i, none⟩ : Addr).block < _ from h1)).trans h3); have k5 : ∀ (k i : Nat) (v : Value), k < w3.heap.size → k ≠ b → w3.cell? ⟨k, i, none⟩ = some v → w5.cell? ⟨k, i, none⟩ = some v := (fun k i v h1 h2 h3 => (World.cell?_of_block (a := ⟨k, i, none⟩) (hgrow5.block k (Nat.lt_of_lt_of_le h1 hb4.size) (fun e => h2 (by injection e)))).trans (k4 k i v h1 h3))))
    go_end0
    have hc3 : c < w3.heap.size := by omega
    refine ⟨rfl, HK3.out.turned ((hgrow5.block c (Nat.lt_of_lt_of_le hc3 hb4.size) (fun e => hcb (by injection e))).trans (hb4.block c hc3)) hown5, ?_⟩
    exact ((HM3.out.drewN 1).then_below hb4).trans (Mv.of_grown hgrow5)
end Go.Proofs.YtfmbadinfhpihaaGreat
