/-
  Package disk as contracts: Create, Sync, Remove, Rename.
  Conditions: disks that the call has made; texts that are in memory.
-/
import Derived.Test.YtfmbadinfhpihaaGreatDisk5
namespace Go.Proofs.YtfmbadinfhpihaaGreat
open Go.RowKit Go.Maps
set_option maxRecDepth 100000

theorem Caught.mv {p q c : Nat} {s : ByteArray} {w w' : World} (h : Caught p q c s w) (hm : Mv [c] [c] w w') (hp : p ≠ c) (hq : q ≠ c) : Caught p q c s w' :=
  ⟨(World.cell?_of_block (a := ⟨p, 0, none⟩) (hm.block p (cell_lt h.1) (by simpa using hp))).trans h.1, (World.cell?_of_block (a := ⟨q, 0, none⟩) (hm.block q (cell_lt h.2) (by simpa using hq))).trans h.2⟩
/-- The disk's pointer and a name are laid into new blocks. -/
def boxed (w : World) (c : Nat) (s : ByteArray) : World := (w.alloc (.cells #[.pointer (some ⟨c, 0, none⟩)] 25)).alloc (.cells #[.string s] 9)
theorem boxed_caught (w : World) (c : Nat) (s : ByteArray) : Caught w.heap.size (w.heap.size + 1) c s (boxed w c s) := by
  refine ⟨?_, ?_⟩
  · unfold boxed
    rw [World.cell?_alloc_lt _ _ _ (by simp), Lib.cell_of_heap (heap_alloc_new w _)]
    rfl
  · unfold boxed
    have e : w.heap.size + 1 = (w.alloc (.cells #[.pointer (some ⟨c, 0, none⟩)] 25)).heap.size := by simp
    rw [e, Lib.cell_of_heap (heap_alloc_new _ _)]
    rfl
theorem boxed_size (w : World) (c : Nat) (s : ByteArray) : (boxed w c s).heap.size = w.heap.size + 2 := by unfold boxed; simp
theorem boxed_mv (w : World) (c : Nat) (s : ByteArray) (S : List Nat) : Mv S S w (boxed w c s) := ((Mv.refl _ _).alloc _).alloc _
theorem makes : ∀ (fn : Fn) (first cap : Array Value) (w : World), (Instr.makeFunc fn first cap).run Tryz.prog w = .ok (.func fn first cap) w := fun _ _ _ _ => rfl
theorem createW_zero {st : Dk} {s : ByteArray} (h : createW st s = 0) : s.size ≤ 40 := by
  unfold createW at h
  by_cases hv : validB s = true
  · have := of_decide_eq_true hv
    omega
  · rw [if_neg hv] at h
    omega

def createD (st : Dk) (s : ByteArray) : Int × Dk := doD st (fun x => createW x s) (fun x => x.with (putF x.fs s ⟨#[]⟩ 0))
def syncD (st : Dk) (s : ByteArray) : Int × Dk := doD st (fun x => lacksD x s) (fun x => x.with (putF x.fs s (fileAt x.fs s).1 ((fileAt x.fs s).1.size : Nat)))
def removeD (st : Dk) (s : ByteArray) : Int × Dk := doD st (fun x => lacksD x s) (fun x => x.with (delF x.fs s))
set_option maxHeartbeats 1000000 in
theorem create_any (c b : Nat) (st : Dk) (hok : st.Ok) (s : ByteArray) (hs : s.size ≤ 9223372036854775807) (w : World) (h : DkAt c b st w) :
    Calls Tryz.prog 28 #[.pointer (some ⟨c, 0, none⟩), .string s] w fun e w' => e = .returned (.int .i64 (createD st s).1) ∧ DkAt c b (createD st s).2 w' ∧ Mv [c, b] [c, b] w w' := by
  have hclt := h.lt
  have hd := do_any c b st hok (boxed w c s) ((h.alloc _).alloc _) 59 61 #[.pointer (some ⟨w.heap.size, 0, none⟩), .pointer (some ⟨w.heap.size + 1, 0, none⟩)] #[.pointer (some ⟨w.heap.size, 0, none⟩), .pointer (some ⟨w.heap.size + 1, 0, none⟩)]
    (fun x => createW x s) (fun x => x.with (putF x.fs s ⟨#[]⟩ 0)) (fun _ => by kernel_rfl) (fun _ => by kernel_rfl)
    (fun w1 h1 hm => create1_any c b _ _ _ (opD_ok hok) s hs w1 h1 ((boxed_caught w c s).mv hm (by omega) (by omega)))
    (fun h0 w1 h1 hm => create2_any c b _ _ _ (opD_ok hok) s (by have := createW_zero h0; omega) w1 h1 ((boxed_caught w c s).mv hm (by omega) (by omega)))
  change Calls _ _ _ _ fun e w' => e = .returned (.int .i64 (createD st s).1) ∧ DkAt c b (createD st s).2 w' ∧ _ at hd
  obtain ⟨x, hx⟩ : ∃ x, createD st s = x := ⟨_, rfl⟩
  rw [hx] at hd ⊢
  have HD := Lib.hid hd
  have hmf := makes
  clear hd h hx
  go_enter Tryz.func28, Tryz.ntmps28
  go_wp2_with fail
  refine HD.out.mono ?_
  rintro e w1 ⟨rfl, h1, hm1⟩
  have H1 := Lib.hid h1
  have HM := Lib.hid ((boxed_mv w c s _).trans hm1)
  clear h1 hm1
  go_wp2
  go_ret
  exact ⟨rfl, H1.out, HM.out⟩

set_option maxHeartbeats 1000000 in
theorem sync_any (c b : Nat) (st : Dk) (hok : st.Ok) (s : ByteArray) (hs : s.size ≤ 9223372036854775807) (w : World) (h : DkAt c b st w) :
    Calls Tryz.prog 49 #[.pointer (some ⟨c, 0, none⟩), .string s] w fun e w' => e = .returned (.int .i64 (syncD st s).1) ∧ DkAt c b (syncD st s).2 w' ∧ Mv [c, b] [c, b] w w' := by
  have hclt := h.lt
  have hd := do_any c b st hok (boxed w c s) ((h.alloc _).alloc _) 159 160 #[.pointer (some ⟨w.heap.size, 0, none⟩), .pointer (some ⟨w.heap.size + 1, 0, none⟩)] #[.pointer (some ⟨w.heap.size, 0, none⟩), .pointer (some ⟨w.heap.size + 1, 0, none⟩)]
    (fun x => lacksD x s) (fun x => x.with (putF x.fs s (fileAt x.fs s).1 ((fileAt x.fs s).1.size : Nat))) (fun _ => by kernel_rfl) (fun _ => by kernel_rfl)
    (fun w1 h1 hm => lacks1_any c b _ _ _ (opD_ok hok) s hs w1 h1 ((boxed_caught w c s).mv hm (by omega) (by omega)))
    (fun h0 w1 h1 hm => sync2_any c b _ _ _ (opD_ok hok) s hs w1 h1 ((boxed_caught w c s).mv hm (by omega) (by omega)))
  change Calls _ _ _ _ fun e w' => e = .returned (.int .i64 (syncD st s).1) ∧ DkAt c b (syncD st s).2 w' ∧ _ at hd
  obtain ⟨x, hx⟩ : ∃ x, syncD st s = x := ⟨_, rfl⟩
  rw [hx] at hd ⊢
  have HD := Lib.hid hd
  have hmf := makes
  clear hd h hx
  go_enter Tryz.func49, Tryz.ntmps49
  go_wp2_with fail
  refine HD.out.mono ?_
  rintro e w1 ⟨rfl, h1, hm1⟩
  have H1 := Lib.hid h1
  have HM := Lib.hid ((boxed_mv w c s _).trans hm1)
  clear h1 hm1
  go_wp2
  go_ret
  exact ⟨rfl, H1.out, HM.out⟩

set_option maxHeartbeats 1000000 in
theorem remove_any (c b : Nat) (st : Dk) (hok : st.Ok) (s : ByteArray) (hs : s.size ≤ 9223372036854775807) (w : World) (h : DkAt c b st w) :
    Calls Tryz.prog 213 #[.pointer (some ⟨c, 0, none⟩), .string s] w fun e w' => e = .returned (.int .i64 (removeD st s).1) ∧ DkAt c b (removeD st s).2 w' ∧ Mv [c, b] [c, b] w w' := by
  have hclt := h.lt
  have hd := do_any c b st hok (boxed w c s) ((h.alloc _).alloc _) 234 235 #[.pointer (some ⟨w.heap.size, 0, none⟩), .pointer (some ⟨w.heap.size + 1, 0, none⟩)] #[.pointer (some ⟨w.heap.size, 0, none⟩), .pointer (some ⟨w.heap.size + 1, 0, none⟩)]
    (fun x => lacksD x s) (fun x => x.with (delF x.fs s)) (fun _ => by kernel_rfl) (fun _ => by kernel_rfl)
    (fun w1 h1 hm => lacks2_any c b _ _ _ (opD_ok hok) s hs w1 h1 ((boxed_caught w c s).mv hm (by omega) (by omega)))
    (fun h0 w1 h1 hm => remove2_any c b _ _ _ s hs w1 h1 ((boxed_caught w c s).mv hm (by omega) (by omega)))
  change Calls _ _ _ _ fun e w' => e = .returned (.int .i64 (removeD st s).1) ∧ DkAt c b (removeD st s).2 w' ∧ _ at hd
  obtain ⟨x, hx⟩ : ∃ x, removeD st s = x := ⟨_, rfl⟩
  rw [hx] at hd ⊢
  have HD := Lib.hid hd
  have hmf := makes
  clear hd h hx
  go_enter Tryz.func213, Tryz.ntmps213
  go_wp2_with fail
  refine HD.out.mono ?_
  rintro e w1 ⟨rfl, h1, hm1⟩
  have H1 := Lib.hid h1
  have HM := Lib.hid ((boxed_mv w c s _).trans hm1)
  clear h1 hm1
  go_wp2
  go_ret
  exact ⟨rfl, H1.out, HM.out⟩

def renameW (st : Dk) (s t : ByteArray) : Int := if hasS st.fs s = true then (if validB t = true then 0 else 9) else 7
def renameD (st : Dk) (s t : ByteArray) : Int × Dk := doD st (fun x => renameW x s t) (fun x => x.with (putF (delF x.fs s) t (fileAt x.fs s).1 (fileAt x.fs s).2))
theorem renameW_zero {st : Dk} {s t : ByteArray} (h : renameW st s t = 0) : t.size ≤ 40 := by
  unfold renameW at h
  by_cases hh : hasS st.fs s = true
  · rw [if_pos hh] at h
    by_cases hv : validB t = true
    · have := of_decide_eq_true hv
      omega
    · rw [if_neg hv] at h
      omega
  · rw [if_neg hh] at h
    omega
theorem rename1_any (c b p q r : Nat) (st : Dk) (hok : st.Ok) (s t : ByteArray) (hs : s.size ≤ 9223372036854775807) (w : World) (h : DkAt c b st w) (hc : Caught p q c s w) (cr : w.cell? ⟨r, 0, none⟩ = some (.string t)) :
    Calls Tryz.prog 214 #[.pointer (some ⟨p, 0, none⟩), .pointer (some ⟨q, 0, none⟩), .pointer (some ⟨r, 0, none⟩)] w fun e w' => e = .returned (.int .i64 (renameW st s t)) ∧ Below w.heap.size w w' := by
  obtain ⟨cp, cq⟩ := hc
  have hrlt := cell_lt cr
  have hl := lacks_any c b st hok.good s hs w h
  have hv := valid_any t
  unfold renameW
  unfold lacksD at hl
  obtain ⟨x, hx⟩ : ∃ x, hasS st.fs s = x := ⟨_, rfl⟩
  obtain ⟨y, hy⟩ : ∃ y, validB t = y := ⟨_, rfl⟩
  rw [hx] at hl ⊢
  rw [hy] at hv ⊢
  clear h hx hy
  have HV := fun w => Lib.hid (hv w)
  cases x
  · rw [if_neg (show ¬ (false = true) by decide)] at hl ⊢
    have HL := Lib.hid hl
    clear hl
    go_enter Tryz.func214, Tryz.ntmps214
    go_wp2_with fail
    refine HL.out.mono ?_
    rintro e w1 ⟨rfl, hb⟩
    have HB := Lib.hid hb
    clear hb
    go_wp2
    go_ret
    exact ⟨rfl, HB.out⟩
  · rw [if_pos rfl] at hl ⊢
    have HL := Lib.hid hl
    clear hl
    cases y
    all_goals
      first | rw [if_neg (show ¬ (false = true) by decide)] | rw [if_pos rfl]
      go_enter Tryz.func214, Tryz.ntmps214
      go_wp2_with fail
      refine HL.out.mono ?_
      rintro e w1 ⟨rfl, hb⟩
      have HB := Lib.hid hb
      have cr1 : w1.cell? ⟨r, 0, none⟩ = some (.string t) := (hb.cell (show (⟨r, 0, none⟩ : Addr).block < _ from hrlt)).trans cr
      clear hb
      go_wp2_with fail
      refine (HV _).out.mono ?_
      rintro e w2 ⟨rfl, rfl⟩
      go_wp2
      go_ret
      exact ⟨rfl, HB.out⟩

set_option maxHeartbeats 1000000 in
theorem rename_any (c b : Nat) (st : Dk) (hok : st.Ok) (s t : ByteArray) (hs : s.size ≤ 9223372036854775807) (w : World) (h : DkAt c b st w) :
    Calls Tryz.prog 154 #[.pointer (some ⟨c, 0, none⟩), .string s, .string t] w fun e w' => e = .returned (.int .i64 (renameD st s t).1) ∧ DkAt c b (renameD st s t).2 w' ∧ Mv [c, b] [c, b] w w' := by
  have hclt := h.lt
  have hbz := boxed_size w c s
  have hct : ((boxed w c s).alloc (.cells #[.string t] 9)).cell? ⟨w.heap.size + 2, 0, none⟩ = some (.string t) := by
    rw [← hbz, Lib.cell_of_heap (heap_alloc_new _ _)]
    rfl
  have hcc : Caught w.heap.size (w.heap.size + 1) c s ((boxed w c s).alloc (.cells #[.string t] 9)) :=
    ⟨(World.cell?_alloc_lt _ _ _ (by show w.heap.size < (boxed w c s).heap.size; omega)).trans (boxed_caught w c s).1, (World.cell?_alloc_lt _ _ _ (by show w.heap.size + 1 < (boxed w c s).heap.size; omega)).trans (boxed_caught w c s).2⟩
  have hr : ∀ w1, Mv [c] [c] ((boxed w c s).alloc (.cells #[.string t] 9)) w1 → w1.cell? ⟨w.heap.size + 2, 0, none⟩ = some (.string t) := fun w1 hm =>
    (World.cell?_of_block (a := ⟨w.heap.size + 2, 0, none⟩) (hm.block (w.heap.size + 2) (cell_lt hct) (by simp; omega))).trans hct
  have hd := do_any c b st hok ((boxed w c s).alloc (.cells #[.string t] 9)) (((h.alloc _).alloc _).alloc _) 214 215 #[.pointer (some ⟨w.heap.size, 0, none⟩), .pointer (some ⟨w.heap.size + 1, 0, none⟩), .pointer (some ⟨w.heap.size + 2, 0, none⟩)] #[.pointer (some ⟨w.heap.size, 0, none⟩), .pointer (some ⟨w.heap.size + 1, 0, none⟩), .pointer (some ⟨w.heap.size + 2, 0, none⟩)]
    (fun x => renameW x s t) (fun x => x.with (putF (delF x.fs s) t (fileAt x.fs s).1 (fileAt x.fs s).2)) (fun _ => by kernel_rfl) (fun _ => by kernel_rfl)
    (fun w1 h1 hm => rename1_any c b _ _ _ _ (opD_ok hok) s t hs w1 h1 (hcc.mv hm (by omega) (by omega)) (hr w1 hm))
    (fun h0 w1 h1 hm => rename2_any c b _ _ _ _ (opD_ok hok) s t hs (by have := renameW_zero h0; omega) w1 h1 (hcc.mv hm (by omega) (by omega)) (hr w1 hm))
  change Calls _ _ _ _ fun e w' => e = .returned (.int .i64 (renameD st s t).1) ∧ DkAt c b (renameD st s t).2 w' ∧ _ at hd
  obtain ⟨x, hx⟩ : ∃ x, renameD st s t = x := ⟨_, rfl⟩
  rw [hx] at hd ⊢
  have HD := Lib.hid hd
  have hmf := makes
  clear hd h hx hct hcc hr hbz
  go_enter Tryz.func154, Tryz.ntmps154
  go_wp2_with fail
  refine HD.out.mono ?_
  rintro e w1 ⟨rfl, h1, hm1⟩
  have H1 := Lib.hid h1
  have HM := Lib.hid (((boxed_mv w c s _).alloc _).trans hm1)
  clear h1 hm1
  go_wp2
  go_ret
  exact ⟨rfl, H1.out, HM.out⟩
end Go.Proofs.YtfmbadinfhpihaaGreat
