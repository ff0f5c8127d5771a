/-
  The reference's writer as contracts: Num.
  Conditions: a writer that the call has made; what it holds takes at most 10^9 bytes.
-/
import Derived.Test.YtkcecijepbceiaaWire7B
namespace Go.Proofs.Ytkcecijepbceiaa
open Go.RowKit

/-- The reference's writer in block g: its error, its bytes; S are its blocks. -/
def RwAt (g : Nat) (S : List Nat) (e : Int) (bs : List UInt8) (w : World) : Prop :=
  ∃ v, S = g :: v.ownBlock.toList ∧ w.heap[g]? = some (.cells #[v, .int .i64 e] 41 (0, 0)) ∧ w.ownsRow 0 5 1 v (Lib.byteCells bs).length (Lib.byteCells bs) ∧ v.ownBlock ≠ some g
section
variable {g : Nat} {S : List Nat} {e : Int} {bs : List UInt8} {w w' : World}
theorem RwAt.own (h : RwAt g S e bs w) : g ∈ S := by obtain ⟨v, rfl, _⟩ := h; simp
theorem RwAt.keep (h : RwAt g S e bs w) (hb : ∀ k, k ∈ S → w'.heap[k]? = w.heap[k]?) : RwAt g S e bs w' := by
  obtain ⟨v, rfl, h2, h3, h4⟩ := h
  exact ⟨v, rfl, by rw [hb g (by simp)]; exact h2, ownsRow_keep h3 (fun k hk => hb k (by simp [hk])), h4⟩
theorem RwAt.cell1 (h : RwAt g S e bs w) : w.cell? ⟨g, 1, none⟩ = some (.int .i64 e) := by obtain ⟨v, _, h2, _⟩ := h; rw [Lib.cell_of_heap h2]; rfl
theorem RwAt.lt (h : RwAt g S e bs w) : g < w.heap.size := by obtain ⟨v, _, h2, _⟩ := h; exact Blk.lt h2
theorem RwAt.there (h : RwAt g S e bs w) : ∀ k, k ∈ S → k < w.heap.size := by
  have h1 := h.lt
  obtain ⟨v, rfl, h2, h3, h4⟩ := h
  intro k hk
  simp only [List.mem_cons, Option.mem_toList] at hk
  rcases hk with rfl | hk
  · exact h1
  · exact (h3.lt k hk).2
theorem RwAt.drewN (h : RwAt g S e bs w) (n : Nat) : RwAt g S e bs (w.drewN n) := h
theorem RwAt.frozen (h : RwAt g S e bs w) (i : Nat) : w.frozen? ⟨g, i, none⟩ = false := by
  obtain ⟨v, _, hb, _⟩ := h
  exact Lib.frozen_of_heap hb i
/-- The error turned, the bytes as they were. -/
theorem RwAt.setErr (h : RwAt g S e bs w) (x : Int) : RwAt g S x bs (w.setCell ⟨g, 1, none⟩ (.int .i64 x)) := by
  obtain ⟨v, rfl, h2, h3, h4⟩ := h
  exact ⟨v, rfl, Blk.set_ (show Blk w g 41 _ from h2) 1 _, ownsRow_keep h3 (fun k hk => Below.heap_setCell _ _ _ _ (show k ≠ g from fun e => h4 (by rw [hk, e]))), h4⟩
/-- Behind an append to a writer's row, ahead of the store; and behind it. -/
theorem RwAt.mid {sv : Value} {wr wx w3 : World} {v3 : Value} {n : Nat} {xs : List Value} (hbk : wr.heap[g]? = some (.cells #[sv, .int .i64 e] 41 (0, 0))) (hne : sv.ownBlock ≠ some g)
    (hx : wx.heap[g]? = wr.heap[g]?) (hxs : wr.heap.size ≤ wx.heap.size) (hgrow : wx.grownBy w3 sv.ownBlock) (hown : w3.ownsRow 0 5 1 v3 n xs) (hl : v3.ownBlock = sv.ownBlock ∨ ∃ k, v3.ownBlock = some k ∧ wx.heap.size ≤ k) (hf : Mv S (g :: sv.ownBlock.toList) w wx) :
    w3.heap[g]? = some (.cells #[sv, .int .i64 e] 41 (0, 0)) ∧ w3.cell? ⟨g, 1, none⟩ = some (.int .i64 e) ∧ w3.cell? ⟨g, 0, none⟩ = some sv ∧ w3.frozen? ⟨g, 0, none⟩ = false ∧ v3.ownBlock ≠ some g ∧ Mv S (g :: v3.ownBlock.toList) w w3 ∧ ∃ ao n' cap, v3 = .slice ao n' cap := by
  have hlt : g < wr.heap.size := Blk.lt hbk
  have hb3 : w3.heap[g]? = some (.cells #[sv, .int .i64 e] 41 (0, 0)) := by
    rw [hgrow.block g (by omega) (fun e' => hne e'.symm), hx]
    exact hbk
  refine ⟨hb3, by rw [Lib.cell_of_heap hb3]; rfl, by rw [Lib.cell_of_heap hb3]; rfl, Lib.frozen_of_heap hb3 0, fun h => ?_, hf.grown hgrow (by intro k hk; simp [hk]) (fun k hk => ?_), ?_⟩
  · rcases hl with h1 | ⟨k, h1, h2⟩
    · exact hne (h1.symm.trans h)
    · rw [h] at h1; injection h1; omega
  · simp only [List.mem_cons, Option.mem_toList] at hk ⊢
    rcases hk with hk | hk
    · exact .inl (.inl hk)
    · rcases hl with h1 | ⟨k', h1, h2⟩
      · rw [h1] at hk; exact .inl (.inr hk)
      · rw [h1] at hk; injection hk with hk; subst hk; exact .inr h2
  · rcases hown.2 with ⟨hv, _⟩ | ⟨g', cap, cur, hv, _⟩
    · exact ⟨_, _, _, hv⟩
    · exact ⟨_, _, _, hv⟩
theorem RwAt.stored {sv v3 : Value} {w3 : World} {n : Nat} (hb3 : w3.heap[g]? = some (.cells #[sv, .int .i64 e] 41 (0, 0))) (hown : w3.ownsRow 0 5 1 v3 n (Lib.byteCells bs)) (hn : n = (Lib.byteCells bs).length) (hne : v3.ownBlock ≠ some g) :
    RwAt g (g :: v3.ownBlock.toList) e bs (w3.setCell ⟨g, 0, none⟩ v3) := by
  subst hn
  exact ⟨v3, rfl, Blk.set_ (show Blk w3 g 41 _ from hb3) 0 _, ownsRow_keep hown (fun k hk => Below.heap_setCell _ _ _ _ (show k ≠ g from fun e => hne (by rw [hk, e]))), hne⟩
end


theorem dbl_pos (v : Int) (h1 : 0 ≤ v) : v * 2 = ((Wire.zz v : Nat) : Int) := by unfold Wire.zz; rw [if_pos h1]; omega
theorem dbl_neg (v : Int) (h1 : v < 0) : -(v + 1) * 2 + 1 = ((Wire.zz v : Nat) : Int) := by unfold Wire.zz; rw [if_neg (by omega)]; omega
set_option maxHeartbeats 1000000 in
set_option maxRecDepth 100000 in
/-- A number put. -/
theorem rwnum0_any (g : Nat) (S : List Nat) (bs : List UInt8) (v : Int) (h1 : -9223372036854775808 ≤ v) (h2 : v ≤ 9223372036854775807) (w : World) (h : RwAt g S 0 bs w) (hN : bs.length ≤ 1000000000) :
    Calls Try.prog 41 #[.pointer (some ⟨g, 0, none⟩), .int .i64 v] w fun r w' => r = .returned (.tuple #[]) ∧ ∃ S', RwAt g S' 0 (Wire.wNum bs v) w' ∧ Mv S S' w w' := by
  obtain ⟨i0, hi, hz0, hz1, hz2⟩ := info_parts info_byte
  have e1 := h.cell1
  have HW := Lib.hid h; clear h
  obtain ⟨Z, HZ⟩ : ∃ Z : Nat, Hid (Wire.zz v = Z) := ⟨_, rfl⟩
  have hZ : Z < 18446744073709551616 := by rw [← HZ.out]; exact Wire.zz_lt h1 h2
  have hZ2 : Z < 2 * 128 ^ 9 := by rw [← Wire.two64]; exact hZ
  clear hZ
  have HZ2 := Lib.hid hZ2; clear hZ2
  by_cases hs : 0 ≤ v
  all_goals
    go_enter Try.func41, Try.ntmps41
    go_wp2
    first
      | rw [dbl_pos v hs]
      | rw [dbl_neg v (by omega)]
    rw [HZ.out]
    clear hs h1 h2
    go_loopw [4] (fun n wr => ∃ (m d : Nat) (done : List UInt8) (S' : List Nat), n = .int .u64 m ∧ d ≤ 9 ∧ done.length = d ∧ Hid (m < 2 * 128 ^ (9 - d)) ∧ Hid (done ++ Wire.encF (9 - d) m = Wire.enc Z) ∧ Hid (RwAt g S' 0 (bs ++ done) wr) ∧ Mv S S' w wr) (fun n _ => (intOf n).toNat)
    case atStart => exact ⟨Z, 0, [], S, rfl, by omega, rfl, HZ2.out, rfl, by show RwAt _ _ _ _ _; simpa using HW.out, Mv.refl _ _⟩
    case round =>
      obtain ⟨m, d, done, S', rfl, hd, hdl, HM, HE, HWr, hb⟩ := hrel
      have hlt := HWr.out.lt
      have hsz := hb.size
      obtain ⟨sv, rfl, hbk, hown, hne⟩ := HWr.out
      have HK := Lib.hid hbk
      have c0 : wr.cell? ⟨g, 1, none⟩ = some (.int .i64 0) := HWr.out.cell1
      have c1 : wr.cell? ⟨g, 0, none⟩ = some sv := by rw [Lib.cell_of_heap hbk]; rfl
      have hlen : (Lib.byteCells (bs ++ done)).length = bs.length + d := by rw [Lib.byteCells_length, List.length_append, hdl]
      rw [hlen] at hown
      have Hlen := Lib.hid hlen
      have Hne := Lib.hid hne
      have Hdl := Lib.hid hdl
      clear hlen hbk hne hdl
      by_cases hm128 : m < 128
      · have hm8 : (m : Int) % 256 = (m : Int) := by omega
        have hm9 : (m : Int) < 128 := by omega
        go_wp2_with (at_builtin; refine wpList_append_any _ rfl _ _ 39 rfl 0 5 i0 (.int .u8 0) 1 1 Try.underlying39 hi hz0 hz1 hz2 rfl (by decide) _ _ _ rfl (hown.alloc _) (wr.heap.size + 1) (some ⟨wr.heap.size, 0, none⟩) 1 1 [.int .u8 (m : Int)] rfl ?c1 ?c2 ?c3 ?c4 ?c5 ?_)
        case c1 => exact reads_newV wr _ _ _ rfl rfl rfl (Nat.lt_succ_self _)
        case c2 => simp [Value.oneCell']
        case c3 => unfold maxLen; omega
        case c4 => omega
        case c5 => omega
        intro v3 w3 hown3 hgrow3 hlink3
        obtain ⟨hb3, d0, d1, f1, hne3, hbw3, ao, n', cap, rfl⟩ := RwAt.mid HK.out Hne.out (Below.heap_alloc wr _ _ hlt) (by simp) hgrow3 hown3 (hlink3.imp id (fun h => ⟨_, h, by simp⟩)) (hb.alloc _)
        have HB3 := Lib.hid hb3
        have Hne3 := Lib.hid hne3
        have Hown3 := Lib.hid hown3
        clear hb3 hown3 hown hgrow3 hlink3 hne3 c0 c1 hm8
        go_wp2
        go_end0
        refine ⟨rfl, _, ?_, hbw3.set_ (by simp) 0 _⟩
        have hfin : Wire.wNum bs v = bs ++ done ++ [UInt8.ofNat m] := by
          have h1 := HE.out
          rw [Wire.encF_small hm128] at h1
          unfold Wire.wNum
          rw [HZ.out, ← h1, List.append_assoc]
        rw [hfin]
        have hcells : Lib.byteCells (bs ++ done ++ [UInt8.ofNat m]) = Lib.byteCells (bs ++ done) ++ [.int .u8 (m : Int)] := by
          rw [Lib.byteCells_append]
          simp only [Lib.byteCells, List.map_cons, List.map_nil, Wire.ofNat_lt (show m < 256 by omega)]
        exact RwAt.stored HB3.out (by rw [hcells]; exact Hown3.out) (by rw [hcells, List.length_append, Hlen.out]; rfl) Hne3.out
      · have hor : (m : Int) % 128 + 128 = ((m % 128 + 128 : Nat) : Int) := by omega
        have hm64 : m < 18446744073709551616 := by
          have h1 := HM.out
          have h2 := Nat.pow_le_pow_right (n := 128) (by omega) (show 9 - d ≤ 9 by omega)
          rw [Wire.two64]
          omega
        have hq64 : IntKind.u64.wrap ((m : Int) / 128) = (m : Int) / 128 := by rw [IntKind.wrap_u64]; omega
        clear hm64
        have hd8 : d < 9 := by
          rcases Nat.lt_or_ge d 9 with h | h
          · exact h
          · have := HM.out; rw [show 9 - d = 0 from by omega] at this; omega
        obtain ⟨x, hx, hx2⟩ : ∃ x : Nat, x = m % 128 + 128 ∧ x < 256 := ⟨_, rfl, by omega⟩
        rw [← hx] at hor
        have HX := Lib.hid hx; clear hx
        go_wp2_with (at_builtin; refine wpList_append_any _ rfl _ _ 39 rfl 0 5 i0 (.int .u8 0) 1 1 Try.underlying39 hi hz0 hz1 hz2 rfl (by decide) _ _ _ rfl (hown.alloc _) (wr.heap.size + 1) (some ⟨wr.heap.size, 0, none⟩) 1 1 [.int .u8 (x : Int)] rfl ?d1 ?d2 ?d3 ?d4 ?d5 ?_)
        case d1 => exact reads_newV wr _ _ _ rfl rfl rfl (Nat.lt_succ_self _)
        case d2 => simp [Value.oneCell']
        case d3 => unfold maxLen; omega
        case d4 => omega
        case d5 => omega
        intro v3 w3 hown3 hgrow3 hlink3
        obtain ⟨hb3, d0, d1, f1, hne3, hbw3, ao, n', cap, rfl⟩ := RwAt.mid HK.out Hne.out (Below.heap_alloc wr _ _ hlt) (by simp) hgrow3 hown3 (hlink3.imp id (fun h => ⟨_, h, by simp⟩)) (hb.alloc _)
        have HB3 := Lib.hid hb3
        have Hne3 := Lib.hid hne3
        have Hown3 := Lib.hid hown3
        clear hb3 hown3 hown hgrow3 hlink3 hne3 c0 c1 hor
        go_wp2
        go_roundw
        case rel =>
          refine ⟨m / 128, d + 1, done ++ [UInt8.ofNat x], _, by go_num, by omega, by rw [List.length_append, Hdl.out]; rfl, ?_, ?_, ?_, hbw3.set_ (by simp) 0 _⟩
          · show _ < _
            have h1 := HM.out
            rw [show 9 - d = (9 - (d + 1)) + 1 from by omega, Nat.pow_succ] at h1
            omega
          · show _ = _
            have h1 := HE.out
            rw [show 9 - d = (9 - (d + 1)) + 1 from by omega, Wire.encF_more hm128, ← HX.out] at h1
            rw [List.append_assoc]
            exact h1
          · show RwAt _ _ _ _ _
            have hcells : Lib.byteCells (bs ++ (done ++ [UInt8.ofNat x])) = Lib.byteCells (bs ++ done) ++ [.int .u8 (x : Int)] := by
              rw [← List.append_assoc, Lib.byteCells_append]
              simp only [Lib.byteCells, List.map_cons, List.map_nil, Wire.ofNat_lt hx2]
            exact RwAt.stored HB3.out (by rw [hcells]; exact Hown3.out) (by rw [hcells, List.length_append, Hlen.out]; rfl) Hne3.out
        case measure => simp [intOf]; omega
end Go.Proofs.Ytkcecijepbceiaa
