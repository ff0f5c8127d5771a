/-
  Texts of one chapter joined: XDisk6, XDisk7, XDisk8, XDisk9, XDisk10, XDisk11, XDisk12.
  Conditions: each lemma's own premises.
-/
import Derived.Test.YtfmbadinfhpihaaGreatDisk5
import Derived.Test.YtfmbadinfhpihaaGreatShelf3
import Derived.Outline
import Derived.Test.YtfmbadinfhpihaaGreatDiskPlain
set_option linter.unusedVariables false
set_option linter.unusedSimpArgs false
namespace Go.Proofs.YtfmbadinfhpihaaGreat
open Go.RowKit Go.Maps
set_option maxRecDepth 100000

theorem Caught.mv {p q c : Nat} {s : ByteArray} {w w' : World} (h : Caught p q c s w) (hm : Mv [c] [c] w w') (hp : p ≠ c) (hq : q ≠ c) : Caught p q c s w' :=
  ⟨(World.cell?_of_block (a := ⟨p, 0, none⟩) (hm.block p (cell_lt h.1) (by simpa using hp))).trans h.1, (World.cell?_of_block (a := ⟨q, 0, none⟩) (hm.block q (cell_lt h.2) (by simpa using hq))).trans h.2⟩
/-- The disk's pointer and a name are laid into new blocks. -/
def boxed (w : World) (c : Nat) (s : ByteArray) : World := (w.alloc (.cells #[.pointer (some ⟨c, 0, none⟩)] 25)).alloc (.cells #[.string s] 9)
theorem boxed_caught (w : World) (c : Nat) (s : ByteArray) : Caught w.heap.size (w.heap.size + 1) c s (boxed w c s) := by
  refine ⟨?_, ?_⟩
  · unfold boxed
    rw [World.cell?_alloc_lt _ _ _ (by simp), Lib.cell_of_heap (heap_alloc_new w _)]
    rfl
  · unfold boxed
    have e : w.heap.size + 1 = (w.alloc (.cells #[.pointer (some ⟨c, 0, none⟩)] 25)).heap.size := by simp
    rw [e, Lib.cell_of_heap (heap_alloc_new _ _)]
    rfl
theorem boxed_size (w : World) (c : Nat) (s : ByteArray) : (boxed w c s).heap.size = w.heap.size + 2 := by unfold boxed; simp
theorem boxed_mv (w : World) (c : Nat) (s : ByteArray) (S : List Nat) : Mv S S w (boxed w c s) := ((Mv.refl _ _).alloc _).alloc _
theorem makes : ∀ (fn : Fn) (first cap : Array Value) (w : World), (Instr.makeFunc fn first cap).run Tryz.prog w = .ok (.func fn first cap) w := fun _ _ _ _ => rfl
theorem createW_zero {st : Dk} {s : ByteArray} (h : createW st s = 0) : s.size ≤ 40 := by
  unfold createW at h
  by_cases hv : validB s = true
  · have := of_decide_eq_true hv
    omega
  · rw [if_neg hv] at h
    omega

def createD (st : Dk) (s : ByteArray) : Int × Dk := doD st (fun x => createW x s) (fun x => x.with (putF x.fs s ⟨#[]⟩ 0))
def syncD (st : Dk) (s : ByteArray) : Int × Dk := doD st (fun x => lacksD x s) (fun x => x.with (putF x.fs s (fileAt x.fs s).1 ((fileAt x.fs s).1.size : Nat)))
def removeD (st : Dk) (s : ByteArray) : Int × Dk := doD st (fun x => lacksD x s) (fun x => x.with (delF x.fs s))
set_option maxHeartbeats 1000000 in
theorem create_any (c b : Nat) (st : Dk) (hok : st.Ok) (s : ByteArray) (hs : s.size ≤ 9223372036854775807) (w : World) (h : DkAt c b st w) :
    Calls Tryz.prog 28 #[.pointer (some ⟨c, 0, none⟩), .string s] w fun e w' => e = .returned (.int .i64 (createD st s).1) ∧ DkAt c b (createD st s).2 w' ∧ Mv [c, b] [c, b] w w' := by
  have hclt := h.lt
  have hd := do_any c b st hok (boxed w c s) ((h.alloc _).alloc _) 59 61 #[.pointer (some ⟨w.heap.size, 0, none⟩), .pointer (some ⟨w.heap.size + 1, 0, none⟩)] #[.pointer (some ⟨w.heap.size, 0, none⟩), .pointer (some ⟨w.heap.size + 1, 0, none⟩)]
    (fun x => createW x s) (fun x => x.with (putF x.fs s ⟨#[]⟩ 0)) (fun _ => by kernel_rfl) (fun _ => by kernel_rfl)
    (fun w1 h1 hm => create1_any c b _ _ _ (opD_ok hok) s hs w1 h1 ((boxed_caught w c s).mv hm (by omega) (by omega)))
    (fun h0 w1 h1 hm => create2_any c b _ _ _ (opD_ok hok) s (by have := createW_zero h0; omega) w1 h1 ((boxed_caught w c s).mv hm (by omega) (by omega)))
  change Calls _ _ _ _ fun e w' => e = .returned (.int .i64 (createD st s).1) ∧ DkAt c b (createD st s).2 w' ∧ _ at hd
  obtain ⟨x, hx⟩ : ∃ x, createD st s = x := ⟨_, rfl⟩
  rw [hx] at hd ⊢
  have HD := Lib.hid hd
  have hmf := makes
  clear hd h hx
  go_enter Tryz.func28, Tryz.ntmps28
  go_wp2_with fail
  refine HD.out.mono ?_
  rintro e w1 ⟨rfl, h1, hm1⟩
  have H1 := Lib.hid h1
  have HM := Lib.hid ((boxed_mv w c s _).trans hm1)
  clear h1 hm1
  go_wp2
  go_ret
  exact ⟨rfl, H1.out, HM.out⟩

set_option maxHeartbeats 1000000 in
theorem sync_any (c b : Nat) (st : Dk) (hok : st.Ok) (s : ByteArray) (hs : s.size ≤ 9223372036854775807) (w : World) (h : DkAt c b st w) :
    Calls Tryz.prog 49 #[.pointer (some ⟨c, 0, none⟩), .string s] w fun e w' => e = .returned (.int .i64 (syncD st s).1) ∧ DkAt c b (syncD st s).2 w' ∧ Mv [c, b] [c, b] w w' := by
  have hclt := h.lt
  have hd := do_any c b st hok (boxed w c s) ((h.alloc _).alloc _) 159 160 #[.pointer (some ⟨w.heap.size, 0, none⟩), .pointer (some ⟨w.heap.size + 1, 0, none⟩)] #[.pointer (some ⟨w.heap.size, 0, none⟩), .pointer (some ⟨w.heap.size + 1, 0, none⟩)]
    (fun x => lacksD x s) (fun x => x.with (putF x.fs s (fileAt x.fs s).1 ((fileAt x.fs s).1.size : Nat))) (fun _ => by kernel_rfl) (fun _ => by kernel_rfl)
    (fun w1 h1 hm => lacks1_any c b _ _ _ (opD_ok hok) s hs w1 h1 ((boxed_caught w c s).mv hm (by omega) (by omega)))
    (fun h0 w1 h1 hm => sync2_any c b _ _ _ (opD_ok hok) s hs w1 h1 ((boxed_caught w c s).mv hm (by omega) (by omega)))
  change Calls _ _ _ _ fun e w' => e = .returned (.int .i64 (syncD st s).1) ∧ DkAt c b (syncD st s).2 w' ∧ _ at hd
  obtain ⟨x, hx⟩ : ∃ x, syncD st s = x := ⟨_, rfl⟩
  rw [hx] at hd ⊢
  have HD := Lib.hid hd
  have hmf := makes
  clear hd h hx
  go_enter Tryz.func49, Tryz.ntmps49
  go_wp2_with fail
  refine HD.out.mono ?_
  rintro e w1 ⟨rfl, h1, hm1⟩
  have H1 := Lib.hid h1
  have HM := Lib.hid ((boxed_mv w c s _).trans hm1)
  clear h1 hm1
  go_wp2
  go_ret
  exact ⟨rfl, H1.out, HM.out⟩

set_option maxHeartbeats 1000000 in
theorem remove_any (c b : Nat) (st : Dk) (hok : st.Ok) (s : ByteArray) (hs : s.size ≤ 9223372036854775807) (w : World) (h : DkAt c b st w) :
    Calls Tryz.prog 213 #[.pointer (some ⟨c, 0, none⟩), .string s] w fun e w' => e = .returned (.int .i64 (removeD st s).1) ∧ DkAt c b (removeD st s).2 w' ∧ Mv [c, b] [c, b] w w' := by
  have hclt := h.lt
  have hd := do_any c b st hok (boxed w c s) ((h.alloc _).alloc _) 234 235 #[.pointer (some ⟨w.heap.size, 0, none⟩), .pointer (some ⟨w.heap.size + 1, 0, none⟩)] #[.pointer (some ⟨w.heap.size, 0, none⟩), .pointer (some ⟨w.heap.size + 1, 0, none⟩)]
    (fun x => lacksD x s) (fun x => x.with (delF x.fs s)) (fun _ => by kernel_rfl) (fun _ => by kernel_rfl)
    (fun w1 h1 hm => lacks2_any c b _ _ _ (opD_ok hok) s hs w1 h1 ((boxed_caught w c s).mv hm (by omega) (by omega)))
    (fun h0 w1 h1 hm => remove2_any c b _ _ _ s hs w1 h1 ((boxed_caught w c s).mv hm (by omega) (by omega)))
  change Calls _ _ _ _ fun e w' => e = .returned (.int .i64 (removeD st s).1) ∧ DkAt c b (removeD st s).2 w' ∧ _ at hd
  obtain ⟨x, hx⟩ : ∃ x, removeD st s = x := ⟨_, rfl⟩
  rw [hx] at hd ⊢
  have HD := Lib.hid hd
  have hmf := makes
  clear hd h hx
  go_enter Tryz.func213, Tryz.ntmps213
  go_wp2_with fail
  refine HD.out.mono ?_
  rintro e w1 ⟨rfl, h1, hm1⟩
  have H1 := Lib.hid h1
  have HM := Lib.hid ((boxed_mv w c s _).trans hm1)
  clear h1 hm1
  go_wp2
  go_ret
  exact ⟨rfl, H1.out, HM.out⟩

def renameW (st : Dk) (s t : ByteArray) : Int := if hasS st.fs s = true then (if validB t = true then 0 else 9) else 7
def renameD (st : Dk) (s t : ByteArray) : Int × Dk := doD st (fun x => renameW x s t) (fun x => x.with (putF (delF x.fs s) t (fileAt x.fs s).1 (fileAt x.fs s).2))
theorem renameW_zero {st : Dk} {s t : ByteArray} (h : renameW st s t = 0) : t.size ≤ 40 := by
  unfold renameW at h
  by_cases hh : hasS st.fs s = true
  · rw [if_pos hh] at h
    by_cases hv : validB t = true
    · have := of_decide_eq_true hv
      omega
    · rw [if_neg hv] at h
      omega
  · rw [if_neg hh] at h
    omega
theorem rename1_any (c b p q r : Nat) (st : Dk) (hok : st.Ok) (s t : ByteArray) (hs : s.size ≤ 9223372036854775807) (w : World) (h : DkAt c b st w) (hc : Caught p q c s w) (cr : w.cell? ⟨r, 0, none⟩ = some (.string t)) :
    Calls Tryz.prog 214 #[.pointer (some ⟨p, 0, none⟩), .pointer (some ⟨q, 0, none⟩), .pointer (some ⟨r, 0, none⟩)] w fun e w' => e = .returned (.int .i64 (renameW st s t)) ∧ Below w.heap.size w w' := by
  obtain ⟨cp, cq⟩ := hc
  have hrlt := cell_lt cr
  have hl := lacks_any c b st hok.good s hs w h
  have hv := valid_any t
  unfold renameW
  unfold lacksD at hl
  obtain ⟨x, hx⟩ : ∃ x, hasS st.fs s = x := ⟨_, rfl⟩
  obtain ⟨y, hy⟩ : ∃ y, validB t = y := ⟨_, rfl⟩
  rw [hx] at hl ⊢
  rw [hy] at hv ⊢
  clear h hx hy
  have HV := fun w => Lib.hid (hv w)
  cases x
  · rw [if_neg (show ¬ (false = true) by decide)] at hl ⊢
    have HL := Lib.hid hl
    clear hl
    go_enter Tryz.func214, Tryz.ntmps214
    go_wp2_with fail
    refine HL.out.mono ?_
    rintro e w1 ⟨rfl, hb⟩
    have HB := Lib.hid hb
    clear hb
    go_wp2
    go_ret
    exact ⟨rfl, HB.out⟩
  · rw [if_pos rfl] at hl ⊢
    have HL := Lib.hid hl
    clear hl
    cases y
    all_goals
      first | rw [if_neg (show ¬ (false = true) by decide)] | rw [if_pos rfl]
      go_enter Tryz.func214, Tryz.ntmps214
      go_wp2_with fail
      refine HL.out.mono ?_
      rintro e w1 ⟨rfl, hb⟩
      have HB := Lib.hid hb
      have cr1 : w1.cell? ⟨r, 0, none⟩ = some (.string t) := (hb.cell (show (⟨r, 0, none⟩ : Addr).block < _ from hrlt)).trans cr
      clear hb
      go_wp2_with fail
      refine (HV _).out.mono ?_
      rintro e w2 ⟨rfl, rfl⟩
      go_wp2
      go_ret
      exact ⟨rfl, HB.out⟩

set_option maxHeartbeats 1000000 in
theorem rename_any (c b : Nat) (st : Dk) (hok : st.Ok) (s t : ByteArray) (hs : s.size ≤ 9223372036854775807) (w : World) (h : DkAt c b st w) :
    Calls Tryz.prog 154 #[.pointer (some ⟨c, 0, none⟩), .string s, .string t] w fun e w' => e = .returned (.int .i64 (renameD st s t).1) ∧ DkAt c b (renameD st s t).2 w' ∧ Mv [c, b] [c, b] w w' := by
  have hclt := h.lt
  have hbz := boxed_size w c s
  have hct : ((boxed w c s).alloc (.cells #[.string t] 9)).cell? ⟨w.heap.size + 2, 0, none⟩ = some (.string t) := by
    rw [← hbz, Lib.cell_of_heap (heap_alloc_new _ _)]
    rfl
  have hcc : Caught w.heap.size (w.heap.size + 1) c s ((boxed w c s).alloc (.cells #[.string t] 9)) :=
    ⟨(World.cell?_alloc_lt _ _ _ (by show w.heap.size < (boxed w c s).heap.size; omega)).trans (boxed_caught w c s).1, (World.cell?_alloc_lt _ _ _ (by show w.heap.size + 1 < (boxed w c s).heap.size; omega)).trans (boxed_caught w c s).2⟩
  have hr : ∀ w1, Mv [c] [c] ((boxed w c s).alloc (.cells #[.string t] 9)) w1 → w1.cell? ⟨w.heap.size + 2, 0, none⟩ = some (.string t) := fun w1 hm =>
    (World.cell?_of_block (a := ⟨w.heap.size + 2, 0, none⟩) (hm.block (w.heap.size + 2) (cell_lt hct) (by simp; omega))).trans hct
  have hd := do_any c b st hok ((boxed w c s).alloc (.cells #[.string t] 9)) (((h.alloc _).alloc _).alloc _) 214 215 #[.pointer (some ⟨w.heap.size, 0, none⟩), .pointer (some ⟨w.heap.size + 1, 0, none⟩), .pointer (some ⟨w.heap.size + 2, 0, none⟩)] #[.pointer (some ⟨w.heap.size, 0, none⟩), .pointer (some ⟨w.heap.size + 1, 0, none⟩), .pointer (some ⟨w.heap.size + 2, 0, none⟩)]
    (fun x => renameW x s t) (fun x => x.with (putF (delF x.fs s) t (fileAt x.fs s).1 (fileAt x.fs s).2)) (fun _ => by kernel_rfl) (fun _ => by kernel_rfl)
    (fun w1 h1 hm => rename1_any c b _ _ _ _ (opD_ok hok) s t hs w1 h1 (hcc.mv hm (by omega) (by omega)) (hr w1 hm))
    (fun h0 w1 h1 hm => rename2_any c b _ _ _ _ (opD_ok hok) s t hs (by have := renameW_zero h0; omega) w1 h1 (hcc.mv hm (by omega) (by omega)) (hr w1 hm))
  change Calls _ _ _ _ fun e w' => e = .returned (.int .i64 (renameD st s t).1) ∧ DkAt c b (renameD st s t).2 w' ∧ _ at hd
  obtain ⟨x, hx⟩ : ∃ x, renameD st s t = x := ⟨_, rfl⟩
  rw [hx] at hd ⊢
  have HD := Lib.hid hd
  have hmf := makes
  clear hd h hx hct hcc hr hbz
  go_enter Tryz.func154, Tryz.ntmps154
  go_wp2_with fail
  refine HD.out.mono ?_
  rintro e w1 ⟨rfl, h1, hm1⟩
  have H1 := Lib.hid h1
  have HM := Lib.hid (((boxed_mv w c s _).alloc _).trans hm1)
  clear h1 hm1
  go_wp2
  go_ret
  exact ⟨rfl, H1.out, HM.out⟩
end Go.Proofs.YtfmbadinfhpihaaGreat
namespace Go.Proofs.YtfmbadinfhpihaaGreat
open Go.RowKit Go.Maps
set_option maxRecDepth 100000

theorem fileE_shape (v : Value) (y : DataW Unit × List MemPlace) (h : fileE v = some y) : ∃ c : ByteArray × Int, v = .agg #[.string c.1, .int .i64 c.2] := by
  obtain ⟨s, n, rfl, _⟩ := fileE_inv h
  exact ⟨(s, n), rfl⟩
theorem keyOf_str_shape (key : Value) (kl : Lit) (h : keyOf Tryz.prog 9 key = some kl) : ∃ x : ByteArray, key = .string x := by
  cases key <;> simp [keyOf, Tryz.underlying9, mapKey] at h
  exact ⟨_, rfl⟩
theorem leftTot_le (left : Lit → Bool) (D : DataW Unit) : leftTot left D ≤ totF D := by
  cases D with
  | map es =>
    show ((es.filter fun p => !left p.1).map sizeE).sum ≤ (es.map sizeE).sum
    induction es with
    | nil => exact Nat.le_refl _
    | cons x r ih =>
      rw [List.filter_cons]
      split
      · simp only [List.map_cons, List.sum_cons]; omega
      · simp only [List.map_cons, List.sum_cons]; omega
  | _ => exact Nat.le_refl _
set_option maxHeartbeats 1000000 in
theorem size_any (c b : Nat) (st : Dk) (hok : st.Ok) (w : World) (h : DkAt c b st w) :
    Calls Tryz.prog 55 #[.pointer (some ⟨c, 0, none⟩)] w fun e w' => e = .returned (.int .i64 (totF st.fs : Nat)) ∧ Below w.heap.size w w' := by
  have c4 := h.cell4
  have hown := h.2.1
  have hg := hok.good
  have htot := hok.tot
  have hblt := h.ltb
  have HG := Lib.hid hg
  clear h hg
  go_enter Tryz.func55, Tryz.ntmps55
  go_wp2_with (at_range; refine wpList_range_own _ rfl _ 45 rfl 9 108 keyT Tryz.underlying45 _ b _ st.fs rfl hown ?_; intro w0 hrg0 hg0 hs0)
  go_frame
  go_loopw [3] (fun n wr => ∃ (left : Lit → Bool) (cnt : Nat), n = .int .i64 (leftTot left st.fs : Nat) ∧ wr.ranges Tryz.prog 9 fileE b w.heap.size (Maps.size st.fs) st.fs left cnt ∧ Hid (Below w.heap.size w wr) ∧ leftTot left st.fs ≤ totF st.fs) (fun _ wr => wr.rangeLeft b w.heap.size)
  case atStart => exact ⟨Maps.has st.fs, Maps.size st.fs, by rw [leftTot_start HG.out]; rfl, hrg0, (show Below w.heap.size w w0 from ⟨hg0.os, hg0.tape, hg0.output, hg0.size, fun k hk => hg0.block k hk (by simp)⟩), by rw [leftTot_start HG.out]; omega⟩
  case round =>
    obtain ⟨left, cnt, rfl, hrg, HBR, hle⟩ := hrel
    have hrn := hrg.ne
    go_wp2_with (at_next; refine wpList_next_ranges _ rfl _ rfl 9 keyT fileE Value.string (fun c : ByteArray × Int => .agg #[.string c.1, .int .i64 c.2]) keyOf_str_shape fileE_shape b _ _ _ _ _ rfl hrg ?_ ?_)
    · intro hc0 hl0
      have he := leftTot_end HG.out hl0
      rw [he]
      have HB2 := Lib.hid HBR.out
      go_wp2
      go_ret
      exact ⟨rfl, HB2.out⟩
    · intro x x1 n1 kl y1 y2 w1 cnt1 hkx hlk hy hat hrg1 hlt hg1 hs1 hen
      have hst := leftTot_step HG.out hlk hat
      have hyd : y1 = fileD x1 n1 := by
        rw [fileE_mk] at hy
        injection hy with hy
        injection hy with hy _
        exact hy.symm
      rw [hyd, unfile_mk] at hst
      change _ = leftTot left st.fs + x1.size at hst
      have htl : leftTot (fun z => left z && !z.sameKey kl) st.fs ≤ totF st.fs := leftTot_le _ _
      have HST := Lib.hid hst
      have HB1 : Hid (Below w.heap.size w w1) := by
        show Below _ _ _
        exact HBR.out.trans ⟨hg1.os, hg1.tape, hg1.output, hg1.size, fun k hk => hg1.block k (Nat.lt_of_lt_of_le hk HBR.out.size) (fun e => by injection e with e; omega)⟩
      have hz1 := HB1.out.size
      have hsz : x1.size ≤ 1000000000 := by omega
      have hcl : leftTot left st.fs + x1.size ≤ 1000000000 := by omega
      clear hyd hy hat hst hlk hg1 HBR
      go_wp2
      go_roundw
      case rel => exact ⟨_, cnt1, by rw [HST.out]; go_num, hrg1.alloc _, HB1.out.alloc hz1 _, htl⟩
      case measure => rw [(hrg1.alloc _).left_eq, hrg.left_eq]; omega
end Go.Proofs.YtfmbadinfhpihaaGreat
namespace Go.Proofs.YtfmbadinfhpihaaGreat
open Go.RowKit Go.Maps
set_option maxRecDepth 100000

def appendW (st : Dk) (s x : ByteArray) : Int := if hasS st.fs s = true then (if 400000 < totF st.fs + x.size then 10 else 0) else 7
def putsD (st : Dk) (s x : ByteArray) : Dk := st.with (putF st.fs s ((fileAt st.fs s).1 ++ x) (fileAt st.fs s).2)
def appendD (st : Dk) (s x : ByteArray) : Int × Dk :=
  if st.on = true then (if (opD st).2 = true then 14 else appendW (opD st).1 s x, if appendW (opD st).1 s x = 0 then putsD (opD st).1 s x else (opD st).1) else (14, st)

set_option maxHeartbeats 2000000 in
set_option maxRecDepth 10000 in
theorem append_any (c b : Nat) (st : Dk) (hok : st.Ok) (s x : ByteArray) (hs : s.size ≤ 9223372036854775807) (hx : x.size ≤ 9223372036854775807) (w : World) (h : DkAt c b st w) :
    Calls Tryz.prog 17 #[.pointer (some ⟨c, 0, none⟩), .string s, .string x] w fun e w' => e = .returned (.int .i64 (appendD st s x).1) ∧ DkAt c b (appendD st s x).2 w' ∧ Mv [c, b] [c, b] w w' := by
  have hcb := h.2.2
  have H1 := Lib.hid (off_any c b st w h)
  have H2 := Lib.hid (op_any c b st hok w h)
  have HK := Lib.hid h
  have hok1 := opD_ok hok
  have hmv : ∀ w1 w2, Mv [c] [c] w w1 → Below w1.heap.size w1 w2 → Mv [c, b] [c, b] w w2 := fun w1 w2 hm hb => (hm.then_below hb).wide (by simp)
  have hmk : ∀ w1 w2, Mv [c, b] [c, b] w w1 → Mv [b] [b] w1 w2 → Mv [c, b] [c, b] w w2 := fun w1 w2 hm hb => hm.trans (hb.wide (by simp))
  obtain ⟨on, hon⟩ : ∃ x, st.on = x := ⟨_, rfl⟩
  obtain ⟨st1, hs1⟩ : ∃ st1, (opD st).1 = st1 := ⟨_, rfl⟩
  obtain ⟨fl, hy⟩ : ∃ y, (opD st).2 = y := ⟨_, rfl⟩
  unfold appendD
  rw [hs1] at H2 hok1 ⊢
  rw [hy] at H2 ⊢
  rw [hon] at H1 ⊢
  have htot := hok1.tot
  have hfew := hok1.few
  have hyl : (fileAt st1.fs s).1.size ≤ totF st1.fs := fileAt_le hok1.good s
  have HLk := fun w h => Lib.hid (lacks_any c b st1 hok1.good s hs w h)
  have HSz := fun w h => Lib.hid (size_any c b st1 hok1 w h)
  have HRun := Lib.hid (fun (w1 : World) (h1 : DkAt c b st1 w1) => run_look h1.2.1 hok1.good hs)
  have HM := Lib.hid hmv
  have HMK := Lib.hid hmk
  clear h hok hmv hmk hs1 hy hon hok1
  cases on
  · rw [if_neg (show ¬ (false = true) by decide)]
    go_enter Tryz.func17, Tryz.ntmps17
    go_wp2_with fail
    refine H1.out.mono ?_
    rintro e w1 ⟨rfl, rfl⟩
    go_wp2
    go_ret
    exact ⟨rfl, HK.out, Mv.refl _ _⟩
  · rw [if_pos rfl]
    obtain ⟨hb, hhb⟩ : ∃ hb, hasS st1.fs s = hb := ⟨_, rfl⟩
    unfold appendW
    rw [hhb]
    unfold lacksD at HLk
    rw [hhb] at HLk
    clear hhb
    cases hb
    · rw [if_neg (show ¬ (false = true) by decide), if_neg (show ¬ ((7 : Int) = 0) by decide)]
      rw [if_neg (show ¬ (false = true) by decide)] at HLk
      cases fl
      all_goals
        first | rw [if_neg (show ¬ (false = true) by decide)] | rw [if_pos rfl]
        go_enter Tryz.func17, Tryz.ntmps17
        go_wp2_with fail
        refine H1.out.mono ?_
        rintro e w1 ⟨rfl, rfl⟩
        go_wp2_with fail
        refine H2.out.mono ?_
        rintro e w1 ⟨rfl, h1, hm1⟩
        have HL1 := HLk w1 h1
        have HK1 := Lib.hid h1
        have HM1 := Lib.hid hm1
        clear h1 hm1
        go_wp2_with fail
        refine HL1.out.mono ?_
        rintro e w2 ⟨rfl, hb2⟩
        have HK2 := Lib.hid (HK1.out.below hb2 HK1.out.lt HK1.out.ltb)
        have HM2 := Lib.hid (HM.out _ _ HM1.out hb2)
        clear hb2
        go_wp2
        go_ret
        exact ⟨rfl, HK2.out, HM2.out⟩
    · rw [if_pos rfl]
      rw [if_pos rfl] at HLk
      by_cases hfull : 400000 < totF st1.fs + x.size
      · rw [if_pos hfull, if_neg (show ¬ ((10 : Int) = 0) by decide)]
        cases fl
        all_goals
          first | rw [if_neg (show ¬ (false = true) by decide)] | rw [if_pos rfl]
          go_enter Tryz.func17, Tryz.ntmps17
          go_wp2_with fail
          refine H1.out.mono ?_
          rintro e w1 ⟨rfl, rfl⟩
          go_wp2_with fail
          refine H2.out.mono ?_
          rintro e w1 ⟨rfl, h1, hm1⟩
          have HL1 := HLk w1 h1
          have HK1 := Lib.hid h1
          have HM1 := Lib.hid hm1
          clear h1 hm1
          go_wp2_with fail
          refine HL1.out.mono ?_
          rintro e w2 ⟨rfl, hb2⟩
          have hk2 := HK1.out.below hb2 HK1.out.lt HK1.out.ltb
          have HS2 := HSz w2 hk2
          have HK2 := Lib.hid hk2
          have HM2 := Lib.hid (HM1.out.then_below hb2)
          clear hb2 hk2
          go_wp2_with fail
          refine HS2.out.mono ?_
          rintro e w3 ⟨rfl, hb3⟩
          have HK3 := Lib.hid (HK2.out.below hb3 HK2.out.lt HK2.out.ltb)
          have HM3 := Lib.hid (HM.out _ _ HM2.out hb3)
          clear hb3
          go_wp2
          go_ret
          exact ⟨rfl, HK3.out, HM3.out⟩
      · rw [if_neg hfull, if_pos rfl]
        have hxs : x.size ≤ 400000 := by omega
        have htot4 : totF st1.fs ≤ 400000 := by omega
        have hadd : (fileAt st1.fs s).1.size + x.size ≤ 9223372036854775807 := by omega
        unfold putsD
        obtain ⟨y, hy⟩ : ∃ y, fileAt st1.fs s = y := ⟨_, rfl⟩
        rw [hy] at HRun hadd hyl ⊢
        clear hy
        cases fl
        all_goals
          first | rw [if_neg (show ¬ (false = true) by decide)] | rw [if_pos rfl]
          go_enter Tryz.func17, Tryz.ntmps17
          go_wp2_with fail
          refine H1.out.mono ?_
          rintro e w1 ⟨rfl, rfl⟩
          go_wp2_with fail
          refine H2.out.mono ?_
          rintro e w1 ⟨rfl, h1, hm1⟩
          have HL1 := HLk w1 h1
          have HK1 := Lib.hid h1
          have HM1 := Lib.hid hm1
          clear h1 hm1
          go_wp2_with fail
          refine HL1.out.mono ?_
          rintro e w2 ⟨rfl, hb2⟩
          have hk2 := HK1.out.below hb2 HK1.out.lt HK1.out.ltb
          have HS2 := HSz w2 hk2
          have HK2 := Lib.hid hk2
          have HM2 := Lib.hid (HM1.out.then_below hb2)
          clear hb2 hk2
          go_wp2_with fail
          refine HS2.out.mono ?_
          rintro e w3 ⟨rfl, hb3⟩
          have hk3 := HK2.out.below hb3 HK2.out.lt HK2.out.ltb
          have HM3 := Lib.hid (HM.out _ _ HM2.out hb3)
          have hrun := HRun.out w3 hk3
          have c43 := hk3.cell4
          have HK3 := Lib.hid hk3
          clear hb3 hk3
          go_wp2
          obtain ⟨W2, HW2⟩ : ∃ W2, Hid (w3.alloc (.cells #[.string (y.1 ++ x), .int .i64 y.2] 108) = W2) := ⟨_, rfl⟩
          have hclt := HK3.out.lt
          have c42 : W2.cell? ⟨c, 4, none⟩ = some (.map (some b)) := by rw [← HW2.out]; exact (World.cell?_alloc_lt _ _ _ hclt).trans c43
          have cf0 : W2.cell? ⟨w3.heap.size, 0, none⟩ = some (.string (y.1 ++ x)) := by rw [← HW2.out, Lib.cell_of_heap (heap_alloc_new w3 _)]; rfl
          have cf1 : W2.cell? ⟨w3.heap.size, 1, none⟩ = some (.int .i64 y.2) := by rw [← HW2.out, Lib.cell_of_heap (heap_alloc_new w3 _)]; rfl
          have hsz2 : W2.heap.size = w3.heap.size + 1 := by rw [← HW2.out]; simp
          have hblt := HK3.out.ltb
          have HK4 : Hid (DkAt c b st1 W2) := by show DkAt _ _ _ _; rw [← HW2.out]; exact HK3.out.alloc _
          have HM4 : Hid (Mv [c, b] [c, b] w W2) := by show Mv _ _ _ _; rw [← HW2.out]; exact HM3.out.alloc _
          rw [HW2.out]
          clear hrun c43 HK3 HM3 HW2 HK2 HM2 HS2 HK1 HM1 HL1 HLk HSz HM H1 H2 HRun HK
          obtain ⟨w4, hrun4, hown4, hgrow4⟩ := (show (W2.drew).ownsMap Tryz.prog 9 fileE b (Maps.size st1.fs) st1.fs from HK4.out.2.1).update keyT Tryz.underlying45 (by unfold maxLen; omega) (key_str hs) (fileE_mk (y.1 ++ x) y.2)
          have k4 : ∀ (k i : Nat) (v : Value), k < W2.heap.size → k ≠ b → W2.cell? ⟨k, i, none⟩ = some v → w4.cell? ⟨k, i, none⟩ = some v := fun k i v h1 h2 h3 => (World.cell?_of_block (a := ⟨k, i, none⟩) (hgrow4.block k h1 (fun e => h2 (by injection e)))).trans h3
          go_region_held3 (fun W => W.cell? ⟨c, 4, none⟩ = some (.map (some b)) ∧ W.cell? ⟨w3.heap.size, 0, none⟩ = some (.string (y.1 ++ x)) ∧ W.cell? ⟨w3.heap.size, 1, none⟩ = some (.int .i64 y.2))
            (first | exact ⟨c42, cf0, cf1⟩ | exact ⟨k4 _ _ _ (by omega) hcb c42, k4 _ _ _ (by omega) (by omega) cf0, k4 _ _ _ (by omega) (by omega) cf1⟩)
            (fail)
          have HK5 := Lib.hid (HK4.out.turned (hgrow4.block c (by show c < W2.heap.size; omega) (fun e => hcb (by injection e))) hown4)
          have HM5 := Lib.hid (HMK.out _ _ (HM4.out.drewN 1) (Mv.of_grown hgrow4))
          clear hrun4 hown4 hgrow4 k4 HK4 HM4
          go_wp2
          go_ret
          exact ⟨rfl, HK5.out, HM5.out⟩
end Go.Proofs.YtfmbadinfhpihaaGreat
namespace Go.Proofs.YtfmbadinfhpihaaGreat
open Go.RowKit Go.Maps
set_option maxRecDepth 100000

def readD (st : Dk) (s : ByteArray) : ByteArray × Int := if st.on = true then ((fileAt st.fs s).1, lacksD st s) else (⟨#[]⟩, 14)
set_option maxHeartbeats 1000000 in
theorem read_any (c b : Nat) (st : Dk) (hg : GoodF st.fs) (s : ByteArray) (hs : s.size ≤ 9223372036854775807) (w : World) (h : DkAt c b st w) :
    Calls Tryz.prog 19 #[.pointer (some ⟨c, 0, none⟩), .string s] w fun e w' => e = .returned (.tuple #[.string (readD st s).1, .int .i64 (readD st s).2]) ∧ Below w.heap.size w w' := by
  have hclt := h.lt
  have hblt := h.ltb
  have c4 := h.cell4
  have H1 := Lib.hid (off_any c b st w h)
  have HL := Lib.hid (lacks_any c b st hg s hs w.drew h)
  have hl0 := run_look (show (w.drew).ownsMap Tryz.prog 9 fileE b (Maps.size st.fs) st.fs from h.2.1) hg hs
  have hl := fun (W : World) (e : W.heap[b]? = w.heap[b]?) => run_look (own_keep h.2.1 e) hg hs
  unfold readD
  obtain ⟨on, hon⟩ : ∃ x, st.on = x := ⟨_, rfl⟩
  obtain ⟨y, hy⟩ : ∃ y, fileAt st.fs s = y := ⟨_, rfl⟩
  obtain ⟨z, hz⟩ : ∃ z, lacksD st s = z := ⟨_, rfl⟩
  rw [hon] at H1 ⊢
  rw [hy] at hl hl0 ⊢
  rw [hz] at HL ⊢
  have HRun := Lib.hid hl
  clear h hon hy hz hl
  cases on
  · rw [if_neg (show ¬ (false = true) by decide)]
    go_enter Tryz.func19, Tryz.ntmps19
    go_wp2_with fail
    refine H1.out.mono ?_
    rintro e w1 ⟨rfl, rfl⟩
    go_wp2
    go_ret2
    exact ⟨rfl, Below.refl _ _⟩
  · rw [if_pos rfl]
    have hfl : ∀ W : World, (Instr.field 108 (.agg #[.string y.1, .int .i64 y.2]) 0).run Tryz.prog W = .ok (.string y.1) W := fun _ => by kernel_rfl
    go_enter Tryz.func19, Tryz.ntmps19
    go_wp2_with fail
    refine H1.out.mono ?_
    rintro e w1 ⟨rfl, rfl⟩
    go_wp2
    go_region_held3 (fun W => W.cell? ⟨c, 4, none⟩ = some (.map (some b)))
      (first | exact c4 | exact (hb2.cell (show (⟨c, 4, none⟩ : Addr).block < _ from hclt)).trans c4)
      (first | (go_at_call 54; refine HL.out.mono ?_; rintro e w2 ⟨rfl, hb2⟩; have hl2 := HRun.out w2 (hb2.block b hblt)))
    all_goals
      have HB : Hid (Below w.heap.size w w2) := by show Below _ _ _; exact (Below.refl w.heap.size w).drew.trans hb2
      go_wp2
      go_ret2
      exact ⟨rfl, HB.out⟩
def newDk : Dk := ⟨true, false, 0, 0, .map []⟩
theorem newDk_ok : newDk.Ok := ⟨goodF_none, by decide, by decide, by decide, by decide, by decide, by decide⟩
set_option maxHeartbeats 1000000 in
theorem new_any (w : World) :
    Calls Tryz.prog 15 #[] w fun e w' => ∃ c b, e = .returned (.pointer (some ⟨c, 0, none⟩)) ∧ DkAt c b newDk w' ∧ w.heap.size ≤ c ∧ w.heap.size ≤ b ∧ Below w.heap.size w w' := by
  have hmm := @run_makeMap Tryz.prog
  go_enter Tryz.func15, Tryz.ntmps15
  go_wp2
  go_ret
  have hm := World.ownsMap_made (H := Unit) w Tryz.prog 9 fileE
  have he : (w.alloc (Obj.map #[] 0)).heap.size = w.heap.size + 1 := by simp
  refine ⟨w.heap.size + 1, w.heap.size, rfl, ⟨?_, hm.alloc _, by omega⟩, by omega, Nat.le_refl _, ?_⟩
  · rw [← he]
    exact heap_alloc_new _ _
  · exact ((Below.refl _ _).alloc (Nat.le_refl _) _).alloc (by simp) _
theorem on_any (c b : Nat) (st : Dk) (w : World) (h : DkAt c b st w) :
    Calls Tryz.prog 72 #[.pointer (some ⟨c, 0, none⟩)] w fun e w' => e = .returned (.bool st.on) ∧ w = w' := by
  have c0 := h.cell0
  clear h
  obtain ⟨on, fused, left, ops, fs⟩ := st
  go_enter Tryz.func72, Tryz.ntmps72
  go_wp2
  go_ret
  exact ⟨rfl, rfl⟩
theorem ops_any (c b : Nat) (st : Dk) (w : World) (h : DkAt c b st w) :
    Calls Tryz.prog 21 #[.pointer (some ⟨c, 0, none⟩)] w fun e w' => e = .returned (.int .i64 st.ops) ∧ w = w' := by
  have c3 := h.cell3
  clear h
  obtain ⟨on, fused, left, ops, fs⟩ := st
  go_enter Tryz.func21, Tryz.ntmps21
  go_wp2
  go_ret
  exact ⟨rfl, rfl⟩
def fuseD (st : Dk) (n : Int) : Dk := ⟨st.on, decide (0 ≤ n), n, st.ops, st.fs⟩
theorem fuse_any (c b : Nat) (st : Dk) (n : Int) (w : World) (h : DkAt c b st w) :
    Calls Tryz.prog 22 #[.pointer (some ⟨c, 0, none⟩), .int .i64 n] w fun e w' => e = .returned (.tuple #[]) ∧ DkAt c b (fuseD st n) w' ∧ Mv [c] [c] w w' := by
  have c1 := h.cell1; have c2 := h.cell2
  have f1 := h.frozen 1; have f2 := h.frozen 2
  have H := Lib.hid h
  clear h
  go_enter Tryz.func22, Tryz.ntmps22
  go_wp2
  go_end0
  exact ⟨rfl, (H.out.set1 _).set2 _, (mv_cell 1 _).trans (mv_cell 2 _)⟩
def restoreD (st : Dk) : Dk := ⟨true, st.fused, st.left, st.ops, st.fs⟩
theorem restore_any (c b : Nat) (st : Dk) (w : World) (h : DkAt c b st w) :
    Calls Tryz.prog 24 #[.pointer (some ⟨c, 0, none⟩)] w fun e w' => e = .returned (.tuple #[]) ∧ DkAt c b (restoreD st) w' ∧ Mv [c] [c] w w' := by
  have c0 := h.cell0; have c4 := h.cell4
  have f0 := h.frozen 0
  have hn := map_nil w (some b)
  have H := Lib.hid h
  clear h
  go_enter Tryz.func24, Tryz.ntmps24
  go_wp2
  go_end0
  exact ⟨rfl, H.out.set0 _, mv_cell 0 _⟩
end Go.Proofs.YtfmbadinfhpihaaGreat
namespace Go.Proofs.YtfmbadinfhpihaaGreat
open Go.RowKit Go.Maps Go.Sort Go.Shelf
set_option maxRecDepth 100000

theorem GoodF.keys {D : DataW Unit} (h : GoodF D) : GoodS D := by
  obtain ⟨ht, es, rfl, hk⟩ := h
  exact ⟨ht, es, rfl, fun p hp => by obtain ⟨s, _, _, e, _⟩ := hk p hp; exact ⟨_, e⟩⟩
theorem sortsT (m : Nat) : AnyZ.SortsIn Tryz.prog Tryz.sortedA_ren Fence.wide m :=
  ⟨fun blk off cap ss W hH hblk hsz => callsIn_wide.2 (AnyM.slices_Sort_string Tryz.sortA blk off cap ss W hH hblk hsz),
   fun p cap W => callsIn_wide.2 (AnyM.slices_Sort_string_none Tryz.sortA p cap W)⟩
theorem keys_any (mb : Option Nat) (W : World) : Calls Tryz.prog 57 #[.map mb] W fun e w' => e = .returned (.func (.func 163) #[] #[.pointer (some ⟨W.heap.size, 0, none⟩)]) ∧ w' = W.alloc (.cells #[.map mb] 45) :=
  callsIn_wide.1 (AnyZ.keys_in Tryz.keysA Fence.wide 5 trivial rfl mb W)
theorem sorted_any (b nn : Nat) (D : DataW Unit) (w : World) (hown : w.ownsMap Tryz.prog 9 fileE b nn D) (hmax : Maps.size D ≤ 1000000) :
    Calls Tryz.prog 56 #[.func (.func 163) #[] #[.pointer (some ⟨w.heap.size, 0, none⟩)]] (w.alloc (.cells #[.map (some b)] 45)) fun e w' => ∃ (v : Value) (ss : List (List UInt8)), e = .returned v ∧ ss.Perm (strKeys D) ∧
      w'.ownsRow (w.heap.size + 1) 9 1 v ss.length ((ss.mergeSort (fun x y => decide (x ≤ y))).map encStr) ∧ (v = .slice none 0 0 ↔ ss = []) ∧ Below (w.heap.size + 1) (w.alloc (.cells #[.map (some b)] 45)) w' := by
  have hbl := hown.lt
  have hseq : SeqGives Fence.wide 2 Tryz.prog 163 #[.pointer (some ⟨w.heap.size, 0, none⟩)] encStr (fun ss => ss.Perm (strKeys D)) (Maps.size D) (w.alloc (.cells #[.map (some b)] 45)) :=
    AnyZ.keys_gives (ρ := Tryz.keysA_ren) { Tryz.keysA with } Fence.wide _ trivial rfl (by omega) w.heap.size b nn D _ (by simp) (by simp) (by
      obtain ⟨es, clock, hb, Ft, hs, hD⟩ := hown
      exact ⟨es, clock, (Below.heap_alloc _ _ b hbl).trans hb, Ft, hs, hD⟩)
  have cS := AnyZ.sorted_in Tryz.sortedA Fence.wide 5 trivial trivial trivial trivial rfl (by omega) (sortsT _) (enters_of Tryz.func162 (by kernel_rfl) rfl) 163 #[.pointer (some ⟨w.heap.size, 0, none⟩)] trivial (enters_of Tryz.func163 (by kernel_rfl) rfl) _ _ (by unfold maxLen; omega) (by omega) _ hseq
  have cS2 := callsIn_wide.1 cS
  rw [World.size_alloc] at cS2
  exact cS2
theorem reads_ownedT {w : World} {base n : Nat} {v : Value} {xs : List Value} (h : w.ownsRow base 9 1 v n xs) : ∃ A cap, v = .slice A n cap ∧ Reads w w.heap.size 1 A n xs ∧ ∀ ad, A = some ad → base ≤ ad.block ∧ ad.block < w.heap.size := by
  rcases h.2 with ⟨rfl, hx⟩ | ⟨g, cap, cur, rfl, hb, hh, _⟩
  · subst hx
    have hx1 : xs = [] := List.eq_nil_of_length_eq_zero (by have := h.1; omega)
    subst hx1
    exact ⟨none, 0, rfl, Reads.none_, by simp⟩
  · exact ⟨_, _, rfl, Reads.of_own h, fun ad e => by injection e with e; subst e; exact ⟨hb, Blk.lt (t := 9) hh⟩⟩
theorem encs (l : List (List UInt8)) : l.map encStr = strs (l.map fun x => ⟨x.toArray⟩) := by
  unfold strs
  rw [List.map_map]
  rfl

set_option maxHeartbeats 1000000 in
theorem files_any (c b : Nat) (st : Dk) (hok : st.Ok) (w : World) (h : DkAt c b st w) :
    Calls Tryz.prog 20 #[.pointer (some ⟨c, 0, none⟩)] w fun e w' => ∃ (A : Option Addr) (cap : Nat), e = .returned (.slice A (lstS st.fs).length cap) ∧ Reads w' w'.heap.size 1 A (lstS st.fs).length (strs (lstS st.fs)) ∧ (∀ ad, A = some ad → w.heap.size ≤ ad.block ∧ ad.block < w'.heap.size) ∧ Below w.heap.size w w' := by
  have hS := sorted_any b _ st.fs w h.2.1 hok.few
  have hlen := lstS_len hok.good.keys
  have c4 := h.cell4
  have HS := Lib.hid hS
  have HL := Lib.hid hlen
  clear hS h hlen hok
  go_enter Tryz.func20, Tryz.ntmps20
  go_wp2_with fail
  refine (keys_any _ _).mono ?_
  rintro e w1 ⟨rfl, rfl⟩
  go_wp2_with fail
  refine HS.out.mono ?_
  rintro e w2 ⟨v, ss, rfl, hp, hown, _, hb2⟩
  have hsort : ss.mergeSort (fun x y => decide (x ≤ y)) = (strKeys st.fs).mergeSort leB := mergeSort_of_perm hp
  rw [hsort] at hown
  have hln : ss.length = (lstS st.fs).length := by rw [hp.length_eq]; unfold lstS; rw [List.length_map, List.length_mergeSort]
  rw [encs, hln] at hown
  have hown2 : w2.ownsRow (w.heap.size + 1) 9 1 v (lstS st.fs).length (strs (lstS st.fs)) := hown
  obtain ⟨A, cap, rfl, hrd, hbk⟩ := reads_ownedT hown2
  have hbl : Below w.heap.size w w2 := ((Below.refl w.heap.size w).alloc (Nat.le_refl _) _).trans (hb2.mono (by omega))
  have HR := Lib.hid hrd; have HBK := Lib.hid hbk; have HBL := Lib.hid hbl
  clear hrd hbk hbl hown hown2 hb2 hp hsort hln HS HL
  go_wp2
  go_ret
  exact ⟨A, cap, rfl, HR.out, fun ad e => ⟨by have := (HBK.out ad e).1; omega, (HBK.out ad e).2⟩, HBL.out⟩
end Go.Proofs.YtfmbadinfhpihaaGreat
namespace Go.Proofs.YtfmbadinfhpihaaGreat
open Go.RowKit Go.Maps Go.Sort
set_option maxRecDepth 100000

/-- How many of the bytes that were not synced stay, of n - 1. -/
def kOf (keep : List Int) (i : Nat) (n : Int) : Int :=
  match keep[i]? with
  | some v => if Int.tmod v n < 0 then Int.tmod v n + n else Int.tmod v n
  | none => 0
theorem kOf_range (keep : List Int) (i : Nat) {n : Int} (hn : 0 < n) : 0 ≤ kOf keep i n ∧ kOf keep i n < n := by
  unfold kOf
  split
  · rename_i v _
    have h1 := Int.tmod_lt_of_pos v hn
    have h2 : -n < Int.tmod v n := by
      have := Int.lt_tmod_of_pos v hn
      omega
    split <;> omega
  · omega
/-- A file of which some bytes are gone. -/
def cutOf (keep : List Int) (i : Nat) (y : ByteArray × Int) : ByteArray := y.1.extract 0 ((y.2 + kOf keep i ((y.1.size : Int) - y.2 + 1)).toNat)
def crashF (keep : List Int) (l : List ByteArray) (D : DataW Unit) : Nat → DataW Unit
  | 0 => D
  | i + 1 => match l[i]? with
    | some s => putF (crashF keep l D i) s (cutOf keep i (fileAt (crashF keep l D i) s)) ((cutOf keep i (fileAt (crashF keep l D i) s)).size : Nat)
    | none => crashF keep l D i
theorem crashF_step {keep : List Int} {l : List ByteArray} {D : DataW Unit} {i : Nat} {s : ByteArray} (h : l[i]? = some s) : crashF keep l D (i + 1) = putF (crashF keep l D i) s (cutOf keep i (fileAt (crashF keep l D i) s)) ((cutOf keep i (fileAt (crashF keep l D i) s)).size : Nat) := by
  show (match l[i]? with | some s => _ | none => _) = _
  rw [h]
theorem extract_le (x : ByteArray) (k : Nat) : (x.extract 0 k).size ≤ x.size := by rw [ByteArray.size_extract]; omega
theorem crash_ok {keep : List Int} {D : DataW Unit} (hg : GoodF D) {l : List ByteArray} (hl : ∀ s ∈ l, hasS D s = true) : ∀ i, GoodF (crashF keep l D i) ∧ (∀ s, hasS (crashF keep l D i) s = true ↔ hasS D s = true) ∧ Maps.size (crashF keep l D i) = Maps.size D ∧ totF (crashF keep l D i) ≤ totF D
  | 0 => ⟨hg, fun _ => Iff.rfl, rfl, Nat.le_refl _⟩
  | i + 1 => by
    obtain ⟨h1, h2, h3, h4⟩ := crash_ok (keep := keep) hg hl i
    cases hs : l[i]? with
    | none =>
      have e : crashF keep l D (i + 1) = crashF keep l D i := by
        show (match l[i]? with | some s => _ | none => _) = _
        rw [hs]
      rw [e]
      exact ⟨h1, h2, h3, h4⟩
    | some s =>
      rw [crashF_step hs]
      have hh : hasS (crashF keep l D i) s = true := (h2 s).2 (hl s (List.mem_of_getElem? hs))
      obtain ⟨E, hE⟩ : ∃ E, crashF keep l D i = E := ⟨_, rfl⟩
      rw [hE] at h1 h2 h3 h4 hh ⊢
      have hle : (cutOf keep i (fileAt E s)).size ≤ (fileAt E s).1.size := extract_le _ _
      have hdel := totF_del h1 s
      have hput := totF_put h1 s (cutOf keep i (fileAt E s)) ((cutOf keep i (fileAt E s)).size : Nat)
      refine ⟨h1.put s _ (by omega) (Int.le_refl _), fun t => ?_, ?_, by omega⟩
      · rw [hasF_put h1]
        constructor
        · rintro (rfl | h)
          · exact (h2 t).1 hh
          · exact (h2 t).1 h
        · exact fun h => .inr ((h2 t).2 h)
      · rw [sizeF_put h1, if_pos hh]
        exact h3
def crashD (st : Dk) (keep : List Int) : Dk := ⟨false, false, st.left, st.ops, crashF keep (lstS st.fs) st.fs (lstS st.fs).length⟩
theorem crashD_ok {st : Dk} (h : st.Ok) (keep : List Int) : (crashD st keep).Ok := by
  obtain ⟨h1, _, h3, h4⟩ := crash_ok (keep := keep) h.good (l := lstS st.fs) (fun s hs => (mem_lstS h.good.keys s).1 hs) (lstS st.fs).length
  exact ⟨h1, h.ops0, h.ops1, h.left0, h.left1, by show Maps.size (crashF _ _ _ _) ≤ _; rw [h3]; exact h.few, Nat.le_trans h4 h.tot⟩

/-- A name that a map has is no longer than a string can be. -/
theorem own_key {w : World} {b n : Nat} {D : DataW Unit} (h : w.ownsMap Tryz.prog 9 fileE b n D) {s : ByteArray} (hh : hasS D s = true) : s.size ≤ 9223372036854775807 := by
  obtain ⟨es, clock, _, F, _, rfl⟩ := h
  unfold hasS at hh
  rw [has_eq, List.any_eq_true] at hh
  obtain ⟨p, hp, hps⟩ := hh
  obtain ⟨v, hv⟩ := fit_keys F p (mem_sorted.1 hp)
  rw [WideAt.sameKey_eq hps] at hv
  cases v <;> simp [keyOf, Tryz.underlying9, mapKey, kS] at hv
  obtain ⟨h1, h2⟩ := hv
  unfold maxLen at h1
  have e := congrArg Array.size h2
  have e2 : ∀ x : ByteArray, x.data.size = x.size := fun _ => rfl
  rw [e2, e2] at e
  omega
theorem cut_size {x : ByteArray} {k : Nat} (h : k ≤ x.size) : (x.extract 0 k).size = k := by rw [ByteArray.size_extract]; omega

set_option maxHeartbeats 4000000 in
set_option maxRecDepth 10000 in
theorem crash_any (c b : Nat) (st : Dk) (hok : st.Ok) (keep : List Int) (A : Option Addr) (cp : Nat) (w : World) (h : DkAt c b st w) (hr : Reads w w.heap.size 1 A keep.length (ints keep)) (hA : 0 < keep.length → ∀ ad, A = some ad → ad.block ≠ c ∧ ad.block ≠ b ∧ ad.block < w.heap.size)
    (hv : ∀ v ∈ keep, -9223372036854775808 ≤ v ∧ v ≤ 9223372036854775807) (hl : keep.length ≤ 9223372036854775807) :
    Calls Tryz.prog 23 #[.pointer (some ⟨c, 0, none⟩), .slice A keep.length cp] w fun e w' => e = .returned (.tuple #[]) ∧ DkAt c b (crashD st keep) w' ∧ Mv [c, b] [c, b] w w' := by
  have c0 := h.cell0; have c1 := h.cell1
  have f0 := h.frozen 0; have f1 := h.frozen 1
  obtain ⟨n, hn⟩ : ∃ n, keep.length = n := ⟨_, rfl⟩
  rw [hn] at hr hA hl ⊢
  have hk0 := (h.set0 false).set1 false
  have hkok : Dk.Ok ⟨false, false, st.left, st.ops, st.fs⟩ := ⟨hok.good, hok.ops0, hok.ops1, hok.left0, hok.left1, hok.few, hok.tot⟩
  have HF := Lib.hid (files_any c b _ hkok _ hk0)
  have hmem : ∀ s ∈ lstS st.fs, hasS st.fs s = true := fun s hs => (mem_lstS hok.good.keys s).1 hs
  have hll := lstS_len hok.good.keys
  have hlf : (lstS st.fs).length ≤ 1000000 := by rw [hll]; exact hok.few
  have hlm := fun i => crash_ok (keep := keep) hok.good hmem i
  have hszd := hok.tot
  have hfew := hok.few
  unfold crashD
  obtain ⟨l, hl9⟩ : ∃ l, lstS st.fs = l := ⟨_, rfl⟩
  simp only [hl9] at HF hmem hlf hlm ⊢
  obtain ⟨m, hm⟩ : ∃ m, l.length = m := ⟨_, rfl⟩
  simp only [hm] at HF hlf ⊢
  have HMEM := Lib.hid hmem; have HM := Lib.hid hm; have HN := Lib.hid hn; have HR := Lib.hid hr; have HA := Lib.hid hA; have HV := Lib.hid hv; have HLM := Lib.hid hlm; have HK := Lib.hid h
  clear hm hn hr hA hv hlm h hl9 hll hk0 hkok hmem
  go_enter Tryz.func23, Tryz.ntmps23
  go_wp2_with fail
  refine HF.out.mono ?_
  rintro e w1 ⟨A1, cp1, rfl, hr1, hA1, hb1⟩
  have HR1 := Lib.hid hr1; have HA1 := Lib.hid hA1
  have hk1 := ((HK.out.set0 false).set1 false).below hb1 (by simpa using HK.out.lt) (by simpa using HK.out.ltb)
  have HK1 := Lib.hid hk1
  have hb1' := hb1.size
  have HM1 := Lib.hid ((((mv_cell (c := c) (w := w) 0 (.bool false)).trans (mv_cell 1 (.bool false))).then_below hb1).wide (T := [c, b]) (by simp))
  clear hr1 hA1 hb1 hk1 HF
  go_wp2
  go_loopw [23] (fun i wr => ∃ k : Nat, k ≤ m ∧ i = .int .i64 k ∧ Hid (DkAt c b ⟨false, false, st.left, st.ops, crashF keep l st.fs k⟩ wr) ∧ Hid (Mv [c, b] [c, b] w1 wr)) (fun i _ => m - (intOf i).toNat)
  case atStart => exact ⟨0, Nat.zero_le _, rfl, HK1.out, Mv.refl _ _⟩
  case round =>
    obtain ⟨k, hk, rfl, HKk, HMk⟩ := hrel
    by_cases hlt : k < m
    · obtain ⟨ad, s, rfl, hab, hsk, hc⟩ := str_at (HR1.out.apart (fun ad e => ⟨by have h1 := (HA1.out ad e).1; have h2 := HK.out.lt; have h3 := HK.out.ltb; simp at h1 ⊢; omega, (HA1.out ad e).2⟩) HMk.out HMk.out.size) hlt
      obtain ⟨hgk, hhk, hzk, htk⟩ := HLM.out k
      have hst := crashF_step (keep := keep) (D := st.fs) hsk
      have hin : hasS (crashF keep l st.fs k) s = true := (hhk s).2 (by have := (HLM.out 0).2.1; exact HMEM.out s (List.mem_of_getElem? hsk))
      have hs9 := own_key HKk.out.2.1 hin
      obtain ⟨D, hD⟩ : ∃ D, crashF keep l st.fs k = D := ⟨_, rfl⟩
      rw [hD] at HKk hgk hzk htk hst
      have hrun := run_look HKk.out.2.1 hgk hs9
      obtain ⟨_, hy0, hy1⟩ := fileAt_form hgk s
      have hyl := fileAt_le hgk s
      obtain ⟨y, hy⟩ : ∃ y, fileAt D s = y := ⟨_, rfl⟩
      rw [hy] at hst hrun hy0 hy1 hyl
      have hq := kOf_range keep k (n := (y.1.size : Int) - y.2 + 1) (by omega)
      obtain ⟨q, hq9⟩ : ∃ q, kOf keep k ((y.1.size : Int) - y.2 + 1) = q := ⟨_, rfl⟩
      unfold cutOf at hst
      rw [hq9] at hst hq
      have c4 := HKk.out.cell4
      have hclt := HKk.out.lt
      have hblt := HKk.out.ltb
      have hcb := HKk.out.2.2
      have hlim : (y.1.extract 0 (y.2 + q).toNat).size ≤ 281474976710656 := by have := extract_le y.1 (y.2 + q).toNat; omega
      have i1 : 0 ≤ y.2 + q := by omega
      have i2 : y.2 + q ≤ (y.1.size : Int) := by omega
      obtain ⟨x, hx⟩ : ∃ x, y.1.extract 0 (y.2 + q).toNat = x := ⟨_, rfl⟩
      rw [hx] at hst hlim
      have HX := Lib.hid hx
      clear hx
      have HST : Hid (crashF keep l st.fs (k + 1) = putF D s x (x.size : Nat)) := hst
      clear hst hin hhk hD hy hgk hsk hab
      by_cases hkn : k < n
      · obtain ⟨ad2, v, rfl, hab2, hvk, hc2⟩ := int_at (HR.out.apart (fun ad e => by have h1 := HA.out (by omega) ad e; exact ⟨by simp; exact ⟨h1.1, h1.2.1⟩, h1.2.2⟩) (HM1.out.trans HMk.out) (HM1.out.trans HMk.out).size) hkn
        have hvr := HV.out v (List.mem_of_getElem? hvk)
        have hq8 : (if Int.tmod v ((y.1.size : Int) - y.2 + 1) < 0 then Int.tmod v ((y.1.size : Int) - y.2 + 1) + ((y.1.size : Int) - y.2 + 1) else Int.tmod v ((y.1.size : Int) - y.2 + 1)) = q := by
          rw [← hq9]
          unfold kOf
          rw [hvk]
        have hc3 : (wr.alloc (.cells #[.string y.1, .int .i64 y.2] 108)).cell? (ad2.add k) = some (.int .i64 v) := (World.cell?_alloc_lt _ _ _ (by rw [block_of_add]; exact hab2)).trans hc2
        clear hq9 hvk hab2 hc2
        have hn0 : (((y.1.size : Int) - y.2 + 1) == 0) = false := by simp; omega
        by_cases hneg : Int.tmod v ((y.1.size : Int) - y.2 + 1) < 0
        · rw [if_pos hneg] at hq8
          have hr1 := Int.lt_tmod_of_pos v (show 0 < (y.1.size : Int) - y.2 + 1 by omega)
          obtain ⟨r, hr⟩ : ∃ r, Int.tmod v ((y.1.size : Int) - y.2 + 1) = r := ⟨_, rfl⟩
          rw [hr] at hneg hq8 hr1
          go_wp2_with fail
          rw [HX.out]
          refine (clone_any _ _ hlim).mono ?_
          rintro e w4 ⟨rfl, hb4⟩
          obtain ⟨w5, hrun5, hown5, hgrow5⟩ := (own_keep HKk.out.2.1 ((hb4.block b (by simp; omega)).trans (Below.heap_alloc wr _ b hblt))).update keyT Tryz.underlying45 (by unfold maxLen; show Maps.size D < _; omega) (key_str hs9) (fileE_mk x (x.size : Nat))
          have c44 : w4.cell? ⟨c, 4, none⟩ = some (.map (some b)) := (hb4.cell (show (⟨c, 4, none⟩ : Addr).block < _ by show c < _; simp; omega)).trans ((World.cell?_alloc_lt _ _ _ hclt).trans c4)
          have hz4 := hb4.size
          have hz4' : wr.heap.size ≤ w4.heap.size := by simp at hz4; omega
          have HK5 : Hid (DkAt c b ⟨false, false, st.left, st.ops, crashF keep l st.fs (k + 1)⟩ w5) := by
            show DkAt _ _ _ _
            rw [HST.out]
            refine HKk.out.turned ?_ hown5
            rw [hgrow5.block c (by omega) (fun e => hcb (by injection e)), hb4.block c (by simp; omega)]
            exact Below.heap_alloc wr _ c hclt
          have HM5 : Hid (Mv [c, b] [c, b] w1 w5) := by
            show Mv _ _ _ _
            exact ((HMk.out.alloc _).then_below hb4).trans ((Mv.of_grown hgrow5).wide (by simp))
          clear hown5 hgrow5 hb4 HKk HMk HST
          go_wp2
          go_roundw
          case rel => exact ⟨k + 1, hlt, by go_num, HK5.out, HM5.out⟩
          case measure => simp [intOf]; omega
        · rw [if_neg hneg] at hq8
          obtain ⟨r, hr⟩ : ∃ r, Int.tmod v ((y.1.size : Int) - y.2 + 1) = r := ⟨_, rfl⟩
          rw [hr] at hneg hq8
          subst hq8
          go_wp2_with fail
          rw [HX.out]
          refine (clone_any _ _ hlim).mono ?_
          rintro e w4 ⟨rfl, hb4⟩
          obtain ⟨w5, hrun5, hown5, hgrow5⟩ := (own_keep HKk.out.2.1 ((hb4.block b (by simp; omega)).trans (Below.heap_alloc wr _ b hblt))).update keyT Tryz.underlying45 (by unfold maxLen; show Maps.size D < _; omega) (key_str hs9) (fileE_mk x (x.size : Nat))
          have c44 : w4.cell? ⟨c, 4, none⟩ = some (.map (some b)) := (hb4.cell (show (⟨c, 4, none⟩ : Addr).block < _ by show c < _; simp; omega)).trans ((World.cell?_alloc_lt _ _ _ hclt).trans c4)
          have hz4 := hb4.size
          have hz4' : wr.heap.size ≤ w4.heap.size := by simp at hz4; omega
          have HK5 : Hid (DkAt c b ⟨false, false, st.left, st.ops, crashF keep l st.fs (k + 1)⟩ w5) := by
            show DkAt _ _ _ _
            rw [HST.out]
            refine HKk.out.turned ?_ hown5
            rw [hgrow5.block c (by omega) (fun e => hcb (by injection e)), hb4.block c (by simp; omega)]
            exact Below.heap_alloc wr _ c hclt
          have HM5 : Hid (Mv [c, b] [c, b] w1 w5) := by
            show Mv _ _ _ _
            exact ((HMk.out.alloc _).then_below hb4).trans ((Mv.of_grown hgrow5).wide (by simp))
          clear hown5 hgrow5 hb4 HKk HMk HST
          go_wp2
          go_roundw
          case rel => exact ⟨k + 1, hlt, by go_num, HK5.out, HM5.out⟩
          case measure => simp [intOf]; omega
      · have hq0 : q = 0 := by
          rw [← hq9]
          unfold kOf
          rw [List.getElem?_eq_none (by have := HN.out; omega)]
        subst hq0
        clear hq9
        have HX0 : Hid (y.1.extract 0 y.2.toNat = x) := by
          have h := HX.out
          rw [Int.add_zero] at h
          exact h
        go_wp2_with fail
        rw [HX0.out]
        refine (clone_any _ _ hlim).mono ?_
        rintro e w4 ⟨rfl, hb4⟩
        obtain ⟨w5, hrun5, hown5, hgrow5⟩ := (own_keep HKk.out.2.1 ((hb4.block b (by simp; omega)).trans (Below.heap_alloc wr _ b hblt))).update keyT Tryz.underlying45 (by unfold maxLen; show Maps.size D < _; omega) (key_str hs9) (fileE_mk x (x.size : Nat))
        have c44 : w4.cell? ⟨c, 4, none⟩ = some (.map (some b)) := (hb4.cell (show (⟨c, 4, none⟩ : Addr).block < _ by show c < _; simp; omega)).trans ((World.cell?_alloc_lt _ _ _ hclt).trans c4)
        have hz4 := hb4.size
        have hz4' : wr.heap.size ≤ w4.heap.size := by simp at hz4; omega
        have HK5 : Hid (DkAt c b ⟨false, false, st.left, st.ops, crashF keep l st.fs (k + 1)⟩ w5) := by
          show DkAt _ _ _ _
          rw [HST.out]
          refine HKk.out.turned ?_ hown5
          rw [hgrow5.block c (by omega) (fun e => hcb (by injection e)), hb4.block c (by simp; omega)]
          exact Below.heap_alloc wr _ c hclt
        have HM5 : Hid (Mv [c, b] [c, b] w1 w5) := by
          show Mv _ _ _ _
          exact ((HMk.out.alloc _).then_below hb4).trans ((Mv.of_grown hgrow5).wide (by simp))
        clear hown5 hgrow5 hb4 HKk HMk HST
        go_wp2
        go_roundw
        case rel => exact ⟨k + 1, hlt, by go_num, HK5.out, HM5.out⟩
        case measure => simp [intOf]; omega
    · obtain rfl : k = m := by omega
      have hk9 : k ≤ k := Nat.le_refl _
      go_wp2
      go_end0
      exact ⟨rfl, HKk.out, HM1.out.trans HMk.out⟩
end Go.Proofs.YtfmbadinfhpihaaGreat
namespace Go.Proofs.YtfmbadinfhpihaaGreat
open Go.RowKit Go.Maps Go.Sort
set_option maxRecDepth 100000

def onD (o : Int) (fs : DataW Unit) : Dk := ⟨true, false, 0, o, fs⟩
def upO (o : Int) : Int := min (o + 1) 4611686018427387904
theorem onD_ok {o : Int} {fs : DataW Unit} (hg : GoodF fs) (h0 : 0 ≤ o) (h1 : o ≤ 4611686018427387904) (hs : Maps.size fs ≤ 1000000) (ht : totF fs ≤ 1000000000) : (onD o fs).Ok := ⟨hg, h0, h1, (show (-9223372036854775808 : Int) ≤ 0 by decide), (show (0 : Int) ≤ 9223372036854775807 by decide), hs, ht⟩
theorem opD_on (o : Int) (fs : DataW Unit) : opD (onD o fs) = (onD (upO o) fs, false) := rfl
theorem doD_on (o : Int) (fs : DataW Unit) (W : Dk → Int) (K : Dk → Dk) : doD (onD o fs) W K = if W (onD (upO o) fs) = 0 then (0, K (onD (upO o) fs)) else (W (onD (upO o) fs), onD (upO o) fs) := by
  unfold doD
  rw [if_pos (show (onD o fs).on = true from rfl), opD_on, if_neg (show ¬ (false = true) by decide)]
section
variable {o : Int} {fs : DataW Unit} {s t x : ByteArray}
theorem create_new (hv : validB s = true) (hh : hasS fs s = false) (hz : Maps.size fs < 40) : createD (onD o fs) s = (0, onD (upO o) (putF fs s ⟨#[]⟩ 0)) := by
  have e : createW (onD (upO o) fs) s = 0 := by
    unfold createW
    rw [if_pos hv, if_neg (by show ¬ hasS fs s = true; rw [hh]; decide), if_neg (by show ¬ 40 ≤ Maps.size fs; omega)]
  unfold createD
  rw [doD_on, if_pos e]
  rfl
theorem create_full (hv : validB s = true) (hh : hasS fs s = false) (hz : 40 ≤ Maps.size fs) : createD (onD o fs) s = (10, onD (upO o) fs) := by
  have e : createW (onD (upO o) fs) s = 10 := by
    unfold createW
    rw [if_pos hv, if_neg (by show ¬ hasS fs s = true; rw [hh]; decide), if_pos (by show 40 ≤ Maps.size fs; omega)]
  unfold createD
  rw [doD_on, if_neg (by rw [e]; decide), e]
theorem append_on (hh : hasS fs s = true) (ht : totF fs + x.size ≤ 400000) : appendD (onD o fs) s x = (0, onD (upO o) (putF fs s ((fileAt fs s).1 ++ x) (fileAt fs s).2)) := by
  have e : appendW (onD (upO o) fs) s x = 0 := by
    unfold appendW
    rw [if_pos (show hasS (onD (upO o) fs).fs s = true from hh), if_neg (by show ¬ 400000 < totF fs + x.size; omega)]
  unfold appendD
  rw [if_pos (show (onD o fs).on = true from rfl), opD_on, if_neg (show ¬ (false = true) by decide)]
  rw [e, if_pos rfl]
  rfl
theorem append_full (hh : hasS fs s = true) (ht : 400000 < totF fs + x.size) : appendD (onD o fs) s x = (10, onD (upO o) fs) := by
  have e : appendW (onD (upO o) fs) s x = 10 := by
    unfold appendW
    rw [if_pos (show hasS (onD (upO o) fs).fs s = true from hh), if_pos (by show 400000 < totF fs + x.size; omega)]
  unfold appendD
  rw [if_pos (show (onD o fs).on = true from rfl), opD_on, if_neg (show ¬ (false = true) by decide)]
  rw [e, if_neg (by decide)]
theorem sync_on (hh : hasS fs s = true) : syncD (onD o fs) s = (0, onD (upO o) (putF fs s (fileAt fs s).1 ((fileAt fs s).1.size : Nat))) := by
  have e : lacksD (onD (upO o) fs) s = 0 := by
    unfold lacksD
    rw [if_pos (show hasS (onD (upO o) fs).fs s = true from hh)]
  unfold syncD
  rw [doD_on, if_pos e]
  rfl
theorem remove_on (hh : hasS fs s = true) : removeD (onD o fs) s = (0, onD (upO o) (delF fs s)) := by
  have e : lacksD (onD (upO o) fs) s = 0 := by
    unfold lacksD
    rw [if_pos (show hasS (onD (upO o) fs).fs s = true from hh)]
  unfold removeD
  rw [doD_on, if_pos e]
  rfl
theorem rename_on (hh : hasS fs s = true) (hv : validB t = true) : renameD (onD o fs) s t = (0, onD (upO o) (putF (delF fs s) t (fileAt fs s).1 (fileAt fs s).2)) := by
  have e : renameW (onD (upO o) fs) s t = 0 := by
    unfold renameW
    rw [if_pos (show hasS (onD (upO o) fs).fs s = true from hh), if_pos hv]
  unfold renameD
  rw [doD_on, if_pos e]
  rfl
theorem rename_none (hh : hasS fs s = false) : renameD (onD o fs) s t = (7, onD (upO o) fs) := by
  have e : renameW (onD (upO o) fs) s t = 7 := by
    unfold renameW
    rw [if_neg (by show ¬ hasS fs s = true; rw [hh]; decide)]
  unfold renameD
  rw [doD_on, if_neg (by rw [e]; decide), e]
theorem read_on : readD (onD o fs) s = ((fileAt fs s).1, if hasS fs s = true then 0 else 7) := rfl
end
/-- One file. -/
def oneF (s x : ByteArray) (n : Int) : DataW Unit := .map [(kS s, fileD x n)]
section
variable {s x y : ByteArray} {n m : Int}
theorem key_self (s : ByteArray) : (kS s).sameKey (kS s) = true := by simp [kS, Lit.sameKey]
theorem put_none : putF (.map []) s x n = oneF s x n := rfl
theorem put_one : putF (oneF s x n) s y m = oneF s y m := by
  show DataW.map (DataW.insert (kS s, fileD y m) (List.filter (fun p => !p.1.sameKey (kS s)) [(kS s, fileD x n)])) = _
  rw [List.filter_cons, key_self]
  rfl
theorem del_one : delF (oneF s x n) s = .map [] := by
  show DataW.map (List.filter (fun p => !p.1.sameKey (kS s)) [(kS s, fileD x n)]) = _
  rw [List.filter_cons, key_self]
  rfl
theorem at_one : fileAt (oneF s x n) s = (x, n) := by rw [← put_none, fileAt_put_same goodF_none]
theorem has_one : hasS (oneF s x n) s = true := by rw [← put_none, hasF_put goodF_none]; exact .inl rfl
theorem not_one {t : ByteArray} (h : t ≠ s) : hasS (oneF s x n) t = false := by
  cases hh : hasS (oneF s x n) t
  · rfl
  · rw [← put_none, hasF_put goodF_none] at hh
    rcases hh with h1 | h1
    · exact absurd h1 h
    · cases h1
theorem tot_one : totF (oneF s x n) = x.size := by
  show ([(kS s, fileD x n)].map sizeE).sum = x.size
  simp [sizeE, unfile_mk]
theorem good_one (h0 : 0 ≤ n) (h1 : n ≤ (x.size : Int)) : GoodF (oneF s x n) := goodF_none.put s x h0 h1
theorem bytes_back (s : ByteArray) : (⟨s.data.toList.toArray⟩ : ByteArray) = s := by
  obtain ⟨⟨l⟩⟩ := s
  rfl
theorem lst_one : lstS (oneF s x n) = [s] := by
  unfold lstS
  have e : strKeys (oneF s x n) = [s.data.toList] := rfl
  rw [e, List.mergeSort_singleton, List.map_cons, List.map_nil, bytes_back]
theorem crash_one (keep : List Int) : crashF keep [s] (oneF s x n) 1 = oneF s (cutOf keep 0 (x, n)) ((cutOf keep 0 (x, n)).size : Nat) := by
  rw [crashF_step (s := s) rfl]
  show putF (oneF s x n) s (cutOf keep 0 (fileAt (oneF s x n) s)) ((cutOf keep 0 (fileAt (oneF s x n) s)).size : Nat) = _
  rw [at_one, put_one]
theorem crashD_one (keep : List Int) (o : Int) : restoreD (crashD (onD o (oneF s x n)) keep) = onD o (oneF s (cutOf keep 0 (x, n)) ((cutOf keep 0 (x, n)).size : Nat)) := by
  unfold crashD restoreD onD
  show Dk.mk true false 0 o (crashF keep (lstS (oneF s x n)) (oneF s x n) (lstS (oneF s x n)).length) = _
  rw [lst_one]
  show Dk.mk true false 0 o (crashF keep [s] (oneF s x n) 1) = _
  rw [crash_one]
end
theorem Dk.there {c b : Nat} {w w1 w2 : World} (hc : w.heap.size ≤ c) (hb : w.heap.size ≤ b) (h : Below w.heap.size w w1) (hm : Mv [c, b] [c, b] w1 w2) : Below w.heap.size w w2 :=
  h.trans (hm.below (fun k hk => by simp at hk; omega) h.size)
theorem Dk.there1 {c : Nat} {w w1 w2 : World} (hc : w.heap.size ≤ c) (h : Below w.heap.size w w1) (hm : Mv [c] [c] w1 w2) : Below w.heap.size w w2 :=
  h.trans (hm.below (fun k hk => by simp at hk; omega) h.size)
end Go.Proofs.YtfmbadinfhpihaaGreat
