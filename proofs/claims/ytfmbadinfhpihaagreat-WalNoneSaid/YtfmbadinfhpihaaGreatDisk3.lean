/-
  Package disk as contracts: what stands at a name, names, a new file.
  Conditions: disks that the call has made.
-/
import Derived.Test.YtfmbadinfhpihaaGreatDisk2
import Derived.Test.YtfmbadinfhpihaaGreatBytes
namespace Go.Proofs.YtfmbadinfhpihaaGreat
open Go.RowKit Go.Maps
set_option maxRecDepth 100000

theorem look_form {D : DataW Unit} (hg : GoodF D) (s : ByteArray) {v : Value} {ps : List MemPlace} (h : fileE v = some (D.atKey (kS s) (fileD ⟨#[]⟩ 0), ps)) : v = .agg #[.string (fileAt D s).1, .int .i64 (fileAt D s).2] := by
  rw [(fileAt_form hg s).1] at h
  obtain ⟨x, n, rfl, hz⟩ := fileE_inv h
  injection hz with h1 _
  obtain ⟨h2, h3⟩ := fileD_inj h1
  rw [h2, h3]
theorem run_look_ok {w : World} {b n : Nat} {D : DataW Unit} (h : w.ownsMap Tryz.prog 9 fileE b n D) (hg : GoodF D) {s : ByteArray} (hs : s.size ≤ 9223372036854775807) :
    (Instr.lookup 45 (.map (some b)) (.string s) true).run Tryz.prog w = .ok (.tuple #[.agg #[.string (fileAt D s).1, .int .i64 (fileAt D s).2], .bool (hasS D s)]) w := by
  obtain ⟨v, ps, hrun, hv⟩ := h.look_ok keyT Tryz.underlying45 (zeroF w) (fileE_mk ⟨#[]⟩ 0) (key_str hs)
  rw [look_form hg s hv] at hrun
  exact hrun
theorem run_look {w : World} {b n : Nat} {D : DataW Unit} (h : w.ownsMap Tryz.prog 9 fileE b n D) (hg : GoodF D) {s : ByteArray} (hs : s.size ≤ 9223372036854775807) :
    (Instr.lookup 45 (.map (some b)) (.string s) false).run Tryz.prog w = .ok (.agg #[.string (fileAt D s).1, .int .i64 (fileAt D s).2]) w := by
  obtain ⟨v, ps, hrun, hv⟩ := h.lookup keyT Tryz.underlying45 (zeroF w) (fileE_mk ⟨#[]⟩ 0) (key_str hs)
  rw [look_form hg s hv] at hrun
  exact hrun

def validB (s : ByteArray) : Bool := decide (0 < s.size ∧ s.size ≤ 40)
theorem valid_any (s : ByteArray) (w : World) :
    Calls Tryz.prog 60 #[.string s] w fun e w' => e = .returned (.bool (validB s)) ∧ w = w' := by
  by_cases h0 : s.size = 0
  · have hs : validB s = false := by unfold validB; rw [decide_eq_false (by omega)]
    obtain rfl : s = ⟨#[]⟩ := by
      obtain ⟨⟨l⟩⟩ := s
      have : l = [] := List.eq_nil_of_length_eq_zero h0
      rw [this]
    rw [hs]
    clear hs h0
    go_enter Tryz.func60, Tryz.ntmps60
    go_wp2
    go_ret
    exact ⟨rfl, rfl⟩
  · have hne : s.toList.isEmpty = false := by
      rw [ByteArray.toList_eq]
      cases h : s.data.toList with
      | nil => exact absurd (by have := len_data s; rw [h] at this; exact this.symm) h0
      | cons a l => rfl
    by_cases h12 : s.size ≤ 40
    · have hs : validB s = true := by unfold validB; rw [decide_eq_true (by omega)]
      have hd : decide ((s.size : Int) ≤ 40) = true := decide_eq_true (by omega)
      rw [hs]
      clear hs
      go_enter Tryz.func60, Tryz.ntmps60
      go_wp2
      go_ret
      exact ⟨rfl, rfl⟩
    · have hs : validB s = false := by unfold validB; rw [decide_eq_false (by omega)]
      have hd : decide ((s.size : Int) ≤ 40) = false := decide_eq_false (by omega)
      rw [hs]
      clear hs
      go_enter Tryz.func60, Tryz.ntmps60
      go_wp2
      go_ret
      exact ⟨rfl, rfl⟩
def lacksD (st : Dk) (s : ByteArray) : Int := if hasS st.fs s = true then 0 else 7
theorem lacks_any (c b : Nat) (st : Dk) (hg : GoodF st.fs) (s : ByteArray) (hs : s.size ≤ 9223372036854775807) (w : World) (h : DkAt c b st w) :
    Calls Tryz.prog 54 #[.pointer (some ⟨c, 0, none⟩), .string s] w fun e w' => e = .returned (.int .i64 (lacksD st s)) ∧ Below w.heap.size w w' := by
  have c4 := h.cell4
  have hl := run_look_ok h.2.1 hg hs
  unfold lacksD
  obtain ⟨x, hx⟩ : ∃ x, hasS st.fs s = x := ⟨_, rfl⟩
  obtain ⟨y, hy⟩ : ∃ y, fileAt st.fs s = y := ⟨_, rfl⟩
  rw [hx, hy] at hl
  rw [hx]
  clear h hx hy
  cases x
  · rw [if_neg (show ¬ (false = true) by decide)]
    go_enter Tryz.func54, Tryz.ntmps54
    go_wp2
    go_ret
    exact ⟨rfl, (Below.refl _ _).alloc (Nat.le_refl _) _⟩
  · rw [if_pos rfl]
    go_enter Tryz.func54, Tryz.ntmps54
    go_wp2
    go_ret
    exact ⟨rfl, (Below.refl _ _).alloc (Nat.le_refl _) _⟩

/-- What the closures have: the disk's pointer and a name, each in a block of its own. -/
def Caught (p q c : Nat) (s : ByteArray) (w : World) : Prop := w.cell? ⟨p, 0, none⟩ = some (.pointer (some ⟨c, 0, none⟩)) ∧ w.cell? ⟨q, 0, none⟩ = some (.string s)
theorem cell_lt {w : World} {p : Nat} {v : Value} (h : w.cell? ⟨p, 0, none⟩ = some v) : p < w.heap.size := by
  rcases Nat.lt_or_ge p w.heap.size with h1 | h1
  · exact h1
  · exfalso
    have : w.heap[p]? = none := Array.getElem?_eq_none h1
    simp [World.cell?, this] at h

def createW (st : Dk) (s : ByteArray) : Int := if validB s = true then (if hasS st.fs s = true then 8 else if 40 ≤ Maps.size st.fs then 10 else 0) else 9
set_option maxHeartbeats 1000000 in
theorem create1_any (c b p q : Nat) (st : Dk) (hok : st.Ok) (s : ByteArray) (hs : s.size ≤ 9223372036854775807) (w : World) (h : DkAt c b st w) (hc : Caught p q c s w) :
    Calls Tryz.prog 59 #[.pointer (some ⟨p, 0, none⟩), .pointer (some ⟨q, 0, none⟩)] w fun e w' => e = .returned (.int .i64 (createW st s)) ∧ Below w.heap.size w w' := by
  obtain ⟨cp, cq⟩ := hc
  have hplt := cell_lt cp
  have hqlt := cell_lt cq
  have hclt := h.lt
  have hblt := h.ltb
  have c4 := h.cell4
  have hl := fun (W : World) (e : W.heap[b]? = w.heap[b]?) => run_look_ok (own_keep h.2.1 e) hok.good hs
  have hn := fun (W : World) (e : W.heap[b]? = w.heap[b]?) => (own_keep h.2.1 e).len Tryz.underlying45
  have hfew := hok.few
  have hv := valid_any s
  unfold createW
  obtain ⟨n, hn9⟩ : ∃ n, Maps.size st.fs = n := ⟨_, rfl⟩
  obtain ⟨x, hx⟩ : ∃ x, hasS st.fs s = x := ⟨_, rfl⟩
  obtain ⟨y, hy⟩ : ∃ y, fileAt st.fs s = y := ⟨_, rfl⟩
  obtain ⟨z, hz⟩ : ∃ z, validB s = z := ⟨_, rfl⟩
  rw [hn9] at hn hfew
  simp only [hx, hy] at hl
  rw [hz] at hv
  rw [hx, hz, hn9]
  have HV := fun w => Lib.hid (hv w)
  clear h hx hy hz hv hn9
  have hl1 := hl ((w.alloc (.cells #[.string ⟨#[]⟩, .int .i64 0] 108)).drew) (Below.heap_alloc w _ b hblt)
  have hl0 := hl w.drew rfl
  clear hl
  have HB : Hid (Below w.heap.size w (w.alloc (.cells #[.string y.1, .int .i64 y.2] 108)).drew) := by
    show Below _ _ _
    exact ((Below.refl w.heap.size w).alloc (Nat.le_refl _) _).drew
  have hn1 := hn ((w.alloc (.cells #[.string y.1, .int .i64 y.2] 108)).drew) (Below.heap_alloc w _ b hblt)
  have cp1 : ((w.alloc (.cells #[.string y.1, .int .i64 y.2] 108)).drew).cell? ⟨p, 0, none⟩ = some (.pointer (some ⟨c, 0, none⟩)) := (World.cell?_alloc_lt _ _ _ hplt).trans cp
  have cq1 : ((w.alloc (.cells #[.string y.1, .int .i64 y.2] 108)).drew).cell? ⟨q, 0, none⟩ = some (.string s) := (World.cell?_alloc_lt _ _ _ hqlt).trans cq
  have c41 : ((w.alloc (.cells #[.string y.1, .int .i64 y.2] 108)).drew).cell? ⟨c, 4, none⟩ = some (.map (some b)) := (World.cell?_alloc_lt _ _ _ hclt).trans c4
  clear hn
  cases z
  · rw [if_neg (show ¬ (false = true) by decide)]
    go_enter Tryz.func59, Tryz.ntmps59
    go_wp2
    go_region_held3 (fun W => W.cell? ⟨p, 0, none⟩ = some (.pointer (some ⟨c, 0, none⟩)) ∧ W.cell? ⟨q, 0, none⟩ = some (.string s) ∧ W.cell? ⟨c, 4, none⟩ = some (.map (some b)))
      (first | exact ⟨cp, cq, c4⟩ | exact ⟨(World.cell?_alloc_lt _ _ _ hplt).trans cp, (World.cell?_alloc_lt _ _ _ hqlt).trans cq, (World.cell?_alloc_lt _ _ _ hclt).trans c4⟩ | go_keep)
      (fail)
    all_goals
      go_wp2_with fail
      refine (HV _).out.mono ?_
      rintro e w1 ⟨rfl, rfl⟩
      go_wp2
      go_ret
      exact ⟨rfl, HB.out⟩
  · rw [if_pos rfl]
    cases x
    · rw [if_neg (show ¬ (false = true) by decide)]
      by_cases h40 : 40 ≤ n
      · rw [if_pos h40]
        go_enter Tryz.func59, Tryz.ntmps59
        go_wp2
        go_region_held3 (fun W => W.cell? ⟨p, 0, none⟩ = some (.pointer (some ⟨c, 0, none⟩)) ∧ W.cell? ⟨q, 0, none⟩ = some (.string s) ∧ W.cell? ⟨c, 4, none⟩ = some (.map (some b)))
          (first | exact ⟨cp, cq, c4⟩ | exact ⟨(World.cell?_alloc_lt _ _ _ hplt).trans cp, (World.cell?_alloc_lt _ _ _ hqlt).trans cq, (World.cell?_alloc_lt _ _ _ hclt).trans c4⟩ | go_keep)
          (fail)
        all_goals
          go_wp2_with fail
          refine (HV _).out.mono ?_
          rintro e w1 ⟨rfl, rfl⟩
          go_wp2
          go_ret
          exact ⟨rfl, HB.out⟩
      · rw [if_neg h40]
        go_enter Tryz.func59, Tryz.ntmps59
        go_wp2
        go_region_held3 (fun W => W.cell? ⟨p, 0, none⟩ = some (.pointer (some ⟨c, 0, none⟩)) ∧ W.cell? ⟨q, 0, none⟩ = some (.string s) ∧ W.cell? ⟨c, 4, none⟩ = some (.map (some b)))
          (first | exact ⟨cp, cq, c4⟩ | exact ⟨(World.cell?_alloc_lt _ _ _ hplt).trans cp, (World.cell?_alloc_lt _ _ _ hqlt).trans cq, (World.cell?_alloc_lt _ _ _ hclt).trans c4⟩ | go_keep)
          (fail)
        all_goals
          go_wp2_with fail
          refine (HV _).out.mono ?_
          rintro e w1 ⟨rfl, rfl⟩
          go_wp2
          go_ret
          exact ⟨rfl, HB.out⟩
    · rw [if_pos rfl]
      go_enter Tryz.func59, Tryz.ntmps59
      go_wp2
      go_region_held3 (fun W => W.cell? ⟨p, 0, none⟩ = some (.pointer (some ⟨c, 0, none⟩)) ∧ W.cell? ⟨q, 0, none⟩ = some (.string s) ∧ W.cell? ⟨c, 4, none⟩ = some (.map (some b)))
        (first | exact ⟨cp, cq, c4⟩ | exact ⟨(World.cell?_alloc_lt _ _ _ hplt).trans cp, (World.cell?_alloc_lt _ _ _ hqlt).trans cq, (World.cell?_alloc_lt _ _ _ hclt).trans c4⟩ | go_keep)
        (fail)
      all_goals
        go_wp2_with fail
        refine (HV _).out.mono ?_
        rintro e w1 ⟨rfl, rfl⟩
        go_wp2
        go_ret
        exact ⟨rfl, HB.out⟩
end Go.Proofs.YtfmbadinfhpihaaGreat
