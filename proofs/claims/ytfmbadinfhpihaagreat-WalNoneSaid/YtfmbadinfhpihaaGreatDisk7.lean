/-
  Package disk as contracts: how many bytes all files have; Append.
  Conditions: disks that the call has made; texts that are in memory.
-/
import Derived.Test.YtfmbadinfhpihaaGreatDisk6
namespace Go.Proofs.YtfmbadinfhpihaaGreat
open Go.RowKit Go.Maps
set_option maxRecDepth 100000

theorem fileE_shape (v : Value) (y : DataW Unit × List MemPlace) (h : fileE v = some y) : ∃ c : ByteArray × Int, v = .agg #[.string c.1, .int .i64 c.2] := by
  obtain ⟨s, n, rfl, _⟩ := fileE_inv h
  exact ⟨(s, n), rfl⟩
theorem keyOf_str_shape (key : Value) (kl : Lit) (h : keyOf Tryz.prog 9 key = some kl) : ∃ x : ByteArray, key = .string x := by
  cases key <;> simp [keyOf, Tryz.underlying9, mapKey] at h
  exact ⟨_, rfl⟩
theorem leftTot_le (left : Lit → Bool) (D : DataW Unit) : leftTot left D ≤ totF D := by
  cases D with
  | map es =>
    show ((es.filter fun p => !left p.1).map sizeE).sum ≤ (es.map sizeE).sum
    induction es with
    | nil => exact Nat.le_refl _
    | cons x r ih =>
      rw [List.filter_cons]
      split
      · simp only [List.map_cons, List.sum_cons]; omega
      · simp only [List.map_cons, List.sum_cons]; omega
  | _ => exact Nat.le_refl _
set_option maxHeartbeats 1000000 in
theorem size_any (c b : Nat) (st : Dk) (hok : st.Ok) (w : World) (h : DkAt c b st w) :
    Calls Tryz.prog 55 #[.pointer (some ⟨c, 0, none⟩)] w fun e w' => e = .returned (.int .i64 (totF st.fs : Nat)) ∧ Below w.heap.size w w' := by
  have c4 := h.cell4
  have hown := h.2.1
  have hg := hok.good
  have htot := hok.tot
  have hblt := h.ltb
  have HG := Lib.hid hg
  clear h hg
  go_enter Tryz.func55, Tryz.ntmps55
  go_wp2_with (at_range; refine wpList_range_own _ rfl _ 45 rfl 9 108 keyT Tryz.underlying45 _ b _ st.fs rfl hown ?_; intro w0 hrg0 hg0 hs0)
  go_frame
  go_loopw [3] (fun n wr => ∃ (left : Lit → Bool) (cnt : Nat), n = .int .i64 (leftTot left st.fs : Nat) ∧ wr.ranges Tryz.prog 9 fileE b w.heap.size (Maps.size st.fs) st.fs left cnt ∧ Hid (Below w.heap.size w wr) ∧ leftTot left st.fs ≤ totF st.fs) (fun _ wr => wr.rangeLeft b w.heap.size)
  case atStart => exact ⟨Maps.has st.fs, Maps.size st.fs, by rw [leftTot_start HG.out]; rfl, hrg0, (show Below w.heap.size w w0 from ⟨hg0.os, hg0.tape, hg0.output, hg0.size, fun k hk => hg0.block k hk (by simp)⟩), by rw [leftTot_start HG.out]; omega⟩
  case round =>
    obtain ⟨left, cnt, rfl, hrg, HBR, hle⟩ := hrel
    have hrn := hrg.ne
    go_wp2_with (at_next; refine wpList_next_ranges _ rfl _ rfl 9 keyT fileE Value.string (fun c : ByteArray × Int => .agg #[.string c.1, .int .i64 c.2]) keyOf_str_shape fileE_shape b _ _ _ _ _ rfl hrg ?_ ?_)
    · intro hc0 hl0
      have he := leftTot_end HG.out hl0
      rw [he]
      have HB2 := Lib.hid HBR.out
      go_wp2
      go_ret
      exact ⟨rfl, HB2.out⟩
    · intro x x1 n1 kl y1 y2 w1 cnt1 hkx hlk hy hat hrg1 hlt hg1 hs1 hen
      have hst := leftTot_step HG.out hlk hat
      have hyd : y1 = fileD x1 n1 := by
        rw [fileE_mk] at hy
        injection hy with hy
        injection hy with hy _
        exact hy.symm
      rw [hyd, unfile_mk] at hst
      change _ = leftTot left st.fs + x1.size at hst
      have htl : leftTot (fun z => left z && !z.sameKey kl) st.fs ≤ totF st.fs := leftTot_le _ _
      have HST := Lib.hid hst
      have HB1 : Hid (Below w.heap.size w w1) := by
        show Below _ _ _
        exact HBR.out.trans ⟨hg1.os, hg1.tape, hg1.output, hg1.size, fun k hk => hg1.block k (Nat.lt_of_lt_of_le hk HBR.out.size) (fun e => by injection e with e; omega)⟩
      have hz1 := HB1.out.size
      have hsz : x1.size ≤ 1000000000 := by omega
      have hcl : leftTot left st.fs + x1.size ≤ 1000000000 := by omega
      clear hyd hy hat hst hlk hg1 HBR
      go_wp2
      go_roundw
      case rel => exact ⟨_, cnt1, by rw [HST.out]; go_num, hrg1.alloc _, HB1.out.alloc hz1 _, htl⟩
      case measure => rw [(hrg1.alloc _).left_eq, hrg.left_eq]; omega
end Go.Proofs.YtfmbadinfhpihaaGreat
