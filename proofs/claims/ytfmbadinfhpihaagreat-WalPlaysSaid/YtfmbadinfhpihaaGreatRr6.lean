/-
  The document's reader (complineref1) as contracts: Fail, Num, End.
  Conditions: readers that the call has made, of at most 10^9 bytes.
-/
import Derived.Test.YtfmbadinfhpihaaGreatWire7B
set_option linter.unusedVariables false
set_option linter.unusedSimpArgs false
namespace Go.Proofs.YtfmbadinfhpihaaGreat.Wi
open Go.RowKit

/-- The reference's writer in block g: its error, its bytes; S are its blocks. -/
def RwAt (g : Nat) (S : List Nat) (e : Int) (bs : List UInt8) (w : World) : Prop :=
  ∃ v, S = g :: v.ownBlock.toList ∧ w.heap[g]? = some (.cells #[v, .int .i64 e] 126 (0, 0)) ∧ w.ownsRow 0 5 1 v (Lib.byteCells bs).length (Lib.byteCells bs) ∧ v.ownBlock ≠ some g
section
variable {g : Nat} {S : List Nat} {e : Int} {bs : List UInt8} {w w' : World}
theorem RwAt.own (h : RwAt g S e bs w) : g ∈ S := by obtain ⟨v, rfl, _⟩ := h; simp
theorem RwAt.keep (h : RwAt g S e bs w) (hb : ∀ k, k ∈ S → w'.heap[k]? = w.heap[k]?) : RwAt g S e bs w' := by
  obtain ⟨v, rfl, h2, h3, h4⟩ := h
  exact ⟨v, rfl, by rw [hb g (by simp)]; exact h2, ownsRow_keep h3 (fun k hk => hb k (by simp [hk])), h4⟩
theorem RwAt.cell1 (h : RwAt g S e bs w) : w.cell? ⟨g, 1, none⟩ = some (.int .i64 e) := by obtain ⟨v, _, h2, _⟩ := h; rw [Lib.cell_of_heap h2]; rfl
theorem RwAt.lt (h : RwAt g S e bs w) : g < w.heap.size := by obtain ⟨v, _, h2, _⟩ := h; exact Blk.lt h2
theorem RwAt.there (h : RwAt g S e bs w) : ∀ k, k ∈ S → k < w.heap.size := by
  have h1 := h.lt
  obtain ⟨v, rfl, h2, h3, h4⟩ := h
  intro k hk
  simp only [List.mem_cons, Option.mem_toList] at hk
  rcases hk with rfl | hk
  · exact h1
  · exact (h3.lt k hk).2
theorem RwAt.drewN (h : RwAt g S e bs w) (n : Nat) : RwAt g S e bs (w.drewN n) := h
theorem RwAt.frozen (h : RwAt g S e bs w) (i : Nat) : w.frozen? ⟨g, i, none⟩ = false := by
  obtain ⟨v, _, hb, _⟩ := h
  exact Lib.frozen_of_heap hb i
/-- The error turned, the bytes as they were. -/
theorem RwAt.setErr (h : RwAt g S e bs w) (x : Int) : RwAt g S x bs (w.setCell ⟨g, 1, none⟩ (.int .i64 x)) := by
  obtain ⟨v, rfl, h2, h3, h4⟩ := h
  exact ⟨v, rfl, Blk.set_ (show Blk w g 126 _ from h2) 1 _, ownsRow_keep h3 (fun k hk => Below.heap_setCell _ _ _ _ (show k ≠ g from fun e => h4 (by rw [hk, e]))), h4⟩
/-- Behind an append to a writer's row, ahead of the store; and behind it. -/
theorem RwAt.mid {sv : Value} {wr wx w3 : World} {v3 : Value} {n : Nat} {xs : List Value} (hbk : wr.heap[g]? = some (.cells #[sv, .int .i64 e] 126 (0, 0))) (hne : sv.ownBlock ≠ some g)
    (hx : wx.heap[g]? = wr.heap[g]?) (hxs : wr.heap.size ≤ wx.heap.size) (hgrow : wx.grownBy w3 sv.ownBlock) (hown : w3.ownsRow 0 5 1 v3 n xs) (hl : v3.ownBlock = sv.ownBlock ∨ ∃ k, v3.ownBlock = some k ∧ wx.heap.size ≤ k) (hf : Mv S (g :: sv.ownBlock.toList) w wx) :
    w3.heap[g]? = some (.cells #[sv, .int .i64 e] 126 (0, 0)) ∧ w3.cell? ⟨g, 1, none⟩ = some (.int .i64 e) ∧ w3.cell? ⟨g, 0, none⟩ = some sv ∧ w3.frozen? ⟨g, 0, none⟩ = false ∧ v3.ownBlock ≠ some g ∧ Mv S (g :: v3.ownBlock.toList) w w3 ∧ ∃ ao n' cap, v3 = .slice ao n' cap := by
  have hlt : g < wr.heap.size := Blk.lt hbk
  have hb3 : w3.heap[g]? = some (.cells #[sv, .int .i64 e] 126 (0, 0)) := by
    rw [hgrow.block g (by omega) (fun e' => hne e'.symm), hx]
    exact hbk
  refine ⟨hb3, by rw [Lib.cell_of_heap hb3]; rfl, by rw [Lib.cell_of_heap hb3]; rfl, Lib.frozen_of_heap hb3 0, fun h => ?_, hf.grown hgrow (by intro k hk; simp [hk]) (fun k hk => ?_), ?_⟩
  · rcases hl with h1 | ⟨k, h1, h2⟩
    · exact hne (h1.symm.trans h)
    · rw [h] at h1; injection h1; omega
  · simp only [List.mem_cons, Option.mem_toList] at hk ⊢
    rcases hk with hk | hk
    · exact .inl (.inl hk)
    · rcases hl with h1 | ⟨k', h1, h2⟩
      · rw [h1] at hk; exact .inl (.inr hk)
      · rw [h1] at hk; injection hk with hk; subst hk; exact .inr h2
  · rcases hown.2 with ⟨hv, _⟩ | ⟨g', cap, cur, hv, _⟩
    · exact ⟨_, _, _, hv⟩
    · exact ⟨_, _, _, hv⟩
theorem RwAt.stored {sv v3 : Value} {w3 : World} {n : Nat} (hb3 : w3.heap[g]? = some (.cells #[sv, .int .i64 e] 126 (0, 0))) (hown : w3.ownsRow 0 5 1 v3 n (Lib.byteCells bs)) (hn : n = (Lib.byteCells bs).length) (hne : v3.ownBlock ≠ some g) :
    RwAt g (g :: v3.ownBlock.toList) e bs (w3.setCell ⟨g, 0, none⟩ v3) := by
  subst hn
  exact ⟨v3, rfl, Blk.set_ (show Blk w3 g 126 _ from hb3) 0 _, ownsRow_keep hown (fun k hk => Below.heap_setCell _ _ _ _ (show k ≠ g from fun e => hne (by rw [hk, e]))), hne⟩
end


theorem dbl_pos (v : Int) (h1 : 0 ≤ v) : v * 2 = ((Wire.zz v : Nat) : Int) := by unfold Wire.zz; rw [if_pos h1]; omega
theorem dbl_neg (v : Int) (h1 : v < 0) : -(v + 1) * 2 + 1 = ((Wire.zz v : Nat) : Int) := by unfold Wire.zz; rw [if_neg (by omega)]; omega
set_option maxHeartbeats 1000000 in
set_option maxRecDepth 100000 in
/-- A number put. -/
theorem rwnum0_any (g : Nat) (S : List Nat) (bs : List UInt8) (v : Int) (h1 : -9223372036854775808 ≤ v) (h2 : v ≤ 9223372036854775807) (w : World) (h : RwAt g S 0 bs w) (hN : bs.length ≤ 1000000000) :
    Calls Tryz.prog 73 #[.pointer (some ⟨g, 0, none⟩), .int .i64 v] w fun r w' => r = .returned (.tuple #[]) ∧ ∃ S', RwAt g S' 0 (Wire.wNum bs v) w' ∧ Mv S S' w w' := by
  obtain ⟨i0, hi, hz0, hz1, hz2⟩ := info_parts info_byte
  have e1 := h.cell1
  have HW := Lib.hid h; clear h
  obtain ⟨Z, HZ⟩ : ∃ Z : Nat, Hid (Wire.zz v = Z) := ⟨_, rfl⟩
  have hZ : Z < 18446744073709551616 := by rw [← HZ.out]; exact Wire.zz_lt h1 h2
  have hZ2 : Z < 2 * 128 ^ 9 := by rw [← Wire.two64]; exact hZ
  clear hZ
  have HZ2 := Lib.hid hZ2; clear hZ2
  by_cases hs : 0 ≤ v
  all_goals
    go_enter Tryz.func73, Tryz.ntmps73
    go_wp2
    first
      | rw [dbl_pos v hs]
      | rw [dbl_neg v (by omega)]
    rw [HZ.out]
    clear hs h1 h2
    go_loopw [4] (fun n wr => ∃ (m d : Nat) (done : List UInt8) (S' : List Nat), n = .int .u64 m ∧ d ≤ 9 ∧ done.length = d ∧ Hid (m < 2 * 128 ^ (9 - d)) ∧ Hid (done ++ Wire.encF (9 - d) m = Wire.enc Z) ∧ Hid (RwAt g S' 0 (bs ++ done) wr) ∧ Mv S S' w wr) (fun n _ => (intOf n).toNat)
    case atStart => exact ⟨Z, 0, [], S, rfl, by omega, rfl, HZ2.out, rfl, by show RwAt _ _ _ _ _; simpa using HW.out, Mv.refl _ _⟩
    case round =>
      obtain ⟨m, d, done, S', rfl, hd, hdl, HM, HE, HWr, hb⟩ := hrel
      have hlt := HWr.out.lt
      have hsz := hb.size
      obtain ⟨sv, rfl, hbk, hown, hne⟩ := HWr.out
      have HK := Lib.hid hbk
      have c0 : wr.cell? ⟨g, 1, none⟩ = some (.int .i64 0) := HWr.out.cell1
      have c1 : wr.cell? ⟨g, 0, none⟩ = some sv := by rw [Lib.cell_of_heap hbk]; rfl
      have hlen : (Lib.byteCells (bs ++ done)).length = bs.length + d := by rw [Lib.byteCells_length, List.length_append, hdl]
      rw [hlen] at hown
      have Hlen := Lib.hid hlen
      have Hne := Lib.hid hne
      have Hdl := Lib.hid hdl
      clear hlen hbk hne hdl
      by_cases hm128 : m < 128
      · have hm8 : (m : Int) % 256 = (m : Int) := by omega
        have hm9 : (m : Int) < 128 := by omega
        go_wp2_with (at_builtin; refine wpList_append_any _ rfl _ _ 48 rfl 0 5 i0 (.int .u8 0) 1 1 Tryz.underlying48 hi hz0 hz1 hz2 rfl (by decide) _ _ _ rfl (hown.alloc _) (wr.heap.size + 1) (some ⟨wr.heap.size, 0, none⟩) 1 1 [.int .u8 (m : Int)] rfl ?c1 ?c2 ?c3 ?c4 ?c5 ?_)
        case c1 => exact reads_newV wr _ _ _ rfl rfl rfl (Nat.lt_succ_self _)
        case c2 => simp [Value.oneCell']
        case c3 => unfold maxLen; omega
        case c4 => omega
        case c5 => omega
        intro v3 w3 hown3 hgrow3 hlink3
        obtain ⟨hb3, d0, d1, f1, hne3, hbw3, ao, n', cap, rfl⟩ := RwAt.mid HK.out Hne.out (Below.heap_alloc wr _ _ hlt) (by simp) hgrow3 hown3 (hlink3.imp id (fun h => ⟨_, h, by simp⟩)) (hb.alloc _)
        have HB3 := Lib.hid hb3
        have Hne3 := Lib.hid hne3
        have Hown3 := Lib.hid hown3
        clear hb3 hown3 hown hgrow3 hlink3 hne3 c0 c1 hm8
        go_wp2
        go_end0
        refine ⟨rfl, _, ?_, hbw3.set_ (by simp) 0 _⟩
        have hfin : Wire.wNum bs v = bs ++ done ++ [UInt8.ofNat m] := by
          have h1 := HE.out
          rw [Wire.encF_small hm128] at h1
          unfold Wire.wNum
          rw [HZ.out, ← h1, List.append_assoc]
        rw [hfin]
        have hcells : Lib.byteCells (bs ++ done ++ [UInt8.ofNat m]) = Lib.byteCells (bs ++ done) ++ [.int .u8 (m : Int)] := by
          rw [Lib.byteCells_append]
          simp only [Lib.byteCells, List.map_cons, List.map_nil, Wire.ofNat_lt (show m < 256 by omega)]
        exact RwAt.stored HB3.out (by rw [hcells]; exact Hown3.out) (by rw [hcells, List.length_append, Hlen.out]; rfl) Hne3.out
      · have hor : (m : Int) % 128 + 128 = ((m % 128 + 128 : Nat) : Int) := by omega
        have hm64 : m < 18446744073709551616 := by
          have h1 := HM.out
          have h2 := Nat.pow_le_pow_right (n := 128) (by omega) (show 9 - d ≤ 9 by omega)
          rw [Wire.two64]
          omega
        have hq64 : IntKind.u64.wrap ((m : Int) / 128) = (m : Int) / 128 := by rw [IntKind.wrap_u64]; omega
        clear hm64
        have hd8 : d < 9 := by
          rcases Nat.lt_or_ge d 9 with h | h
          · exact h
          · have := HM.out; rw [show 9 - d = 0 from by omega] at this; omega
        obtain ⟨x, hx, hx2⟩ : ∃ x : Nat, x = m % 128 + 128 ∧ x < 256 := ⟨_, rfl, by omega⟩
        rw [← hx] at hor
        have HX := Lib.hid hx; clear hx
        go_wp2_with (at_builtin; refine wpList_append_any _ rfl _ _ 48 rfl 0 5 i0 (.int .u8 0) 1 1 Tryz.underlying48 hi hz0 hz1 hz2 rfl (by decide) _ _ _ rfl (hown.alloc _) (wr.heap.size + 1) (some ⟨wr.heap.size, 0, none⟩) 1 1 [.int .u8 (x : Int)] rfl ?d1 ?d2 ?d3 ?d4 ?d5 ?_)
        case d1 => exact reads_newV wr _ _ _ rfl rfl rfl (Nat.lt_succ_self _)
        case d2 => simp [Value.oneCell']
        case d3 => unfold maxLen; omega
        case d4 => omega
        case d5 => omega
        intro v3 w3 hown3 hgrow3 hlink3
        obtain ⟨hb3, d0, d1, f1, hne3, hbw3, ao, n', cap, rfl⟩ := RwAt.mid HK.out Hne.out (Below.heap_alloc wr _ _ hlt) (by simp) hgrow3 hown3 (hlink3.imp id (fun h => ⟨_, h, by simp⟩)) (hb.alloc _)
        have HB3 := Lib.hid hb3
        have Hne3 := Lib.hid hne3
        have Hown3 := Lib.hid hown3
        clear hb3 hown3 hown hgrow3 hlink3 hne3 c0 c1 hor
        go_wp2
        go_roundw
        case rel =>
          refine ⟨m / 128, d + 1, done ++ [UInt8.ofNat x], _, by go_num, by omega, by rw [List.length_append, Hdl.out]; rfl, ?_, ?_, ?_, hbw3.set_ (by simp) 0 _⟩
          · show _ < _
            have h1 := HM.out
            rw [show 9 - d = (9 - (d + 1)) + 1 from by omega, Nat.pow_succ] at h1
            omega
          · show _ = _
            have h1 := HE.out
            rw [show 9 - d = (9 - (d + 1)) + 1 from by omega, Wire.encF_more hm128, ← HX.out] at h1
            rw [List.append_assoc]
            exact h1
          · show RwAt _ _ _ _ _
            have hcells : Lib.byteCells (bs ++ (done ++ [UInt8.ofNat x])) = Lib.byteCells (bs ++ done) ++ [.int .u8 (x : Int)] := by
              rw [← List.append_assoc, Lib.byteCells_append]
              simp only [Lib.byteCells, List.map_cons, List.map_nil, Wire.ofNat_lt hx2]
            exact RwAt.stored HB3.out (by rw [hcells]; exact Hown3.out) (by rw [hcells, List.length_append, Hlen.out]; rfl) Hne3.out
        case measure => simp [intOf]; omega
end Go.Proofs.YtfmbadinfhpihaaGreat.Wi
namespace Go.Proofs.YtfmbadinfhpihaaGreat.Wi
open Go.RowKit

theorem unit_step {j U : Nat} (hj : j ≤ 9) (hU : U = 128 ^ j) : ∃ U' : Nat, IntKind.u64.wrap ((U : Int) * 128) = (U' : Int) ∧ (j < 9 → U' = 128 ^ (j + 1)) := by
  by_cases h9 : j < 9
  · refine ⟨U * 128, ?_, fun _ => by rw [hU, Nat.pow_succ]⟩
    have h1 := Nat.pow_le_pow_right (n := 128) (by omega) (show j ≤ 8 by omega)
    have h2 : (128 : Nat) ^ 8 = 72057594037927936 := by decide
    rw [IntKind.wrap_u64]
    omega
  · refine ⟨(IntKind.u64.wrap ((U : Int) * 128)).toNat, ?_, fun h => absurd h h9⟩
    rw [Int.toNat_of_nonneg]
    rw [IntKind.wrap_u64]
    omega
theorem part_fits {acc c j U : Nat} (hj : j ≤ 9) (hc : c < 256) (h9 : j = 9 → c ≤ 1) (hU : U = 128 ^ j) (ha : acc < 128 ^ j) : acc + c % 128 * U < 18446744073709551616 := by
  subst hU
  by_cases h : j < 9
  · have h1 := Nat.pow_le_pow_right (n := 128) (by omega) (show j ≤ 8 by omega)
    have h2 : (128 : Nat) ^ 8 = 72057594037927936 := by decide
    have h3 : c % 128 * 128 ^ j ≤ 127 * 128 ^ j := Nat.mul_le_mul_right _ (by omega)
    omega
  · have e : j = 9 := by omega
    subst e
    have h1 := h9 rfl
    have h2 : (128 : Nat) ^ 9 = 9223372036854775808 := by decide
    rw [h2] at ha ⊢
    have h3 : c % 128 * 9223372036854775808 ≤ 1 * 9223372036854775808 := Nat.mul_le_mul_right _ (by omega)
    omega
set_option maxHeartbeats 2000000 in
set_option maxRecDepth 100000 in
theorem rrnum_any (s : ByteArray) (w : World) (hs : s.size ≤ 1000000000) :
    Calls Tryz.prog 222 #[.string s] w fun r w' => r = .returned (.tuple #[.int .i64 (numTells s 0).1, .int .i64 (numTells s 0).2.1, .int .i64 (numTells s 0).2.2]) ∧ w = w' := by
  go_enter Tryz.func222, Tryz.ntmps222
  go_wp2
  go_loopw [5, 6, 7] (fun n u i wr => ∃ (j acc U : Nat), n = .int .u64 acc ∧ u = .int .u64 U ∧ i = .int .i64 j ∧ j ≤ 9 ∧ j ≤ s.size ∧ Hid (U = 128 ^ j) ∧ Hid (acc < 128 ^ j) ∧ Hid (Wire.dec 0 0 (s.data.toList.drop 0) = Wire.dec j acc (s.data.toList.drop j)) ∧ wr = w) (fun _ _ i _ => 10 - (intOf i).toNat)
  case atStart => exact ⟨0, 0, 1, rfl, rfl, rfl, by omega, by omega, by simp [Hid], by simp [Hid], by simp [Hid], rfl⟩
  case round =>
    obtain ⟨j, acc, U, rfl, rfl, rfl, hj, hkj, HU, HA, HD, rfl⟩ := hrel
    by_cases hlt : j < s.size
    · have b3 : decide ((s.size : Int) ≤ j) = false := by simp; omega
      obtain ⟨c, hc⟩ : ∃ c : UInt8, s[j] = c := ⟨_, rfl⟩
      have hdrop : s.data.toList.drop j = c :: s.data.toList.drop (j + 1) := by
        rw [drop_cons (byte_at s hlt), hc]
      have Hdrop := Lib.hid hdrop; clear hdrop
      have hcl := c.toNat_lt
      by_cases h9 : j = 9 ∧ 1 < c.toNat
      · obtain ⟨h9e, h1c⟩ := h9
        have h9b : ((j : Int) == 9) = true := by simp; omega
        have H9e := Lib.hid h9e; clear h9e
        have h1c' : (1 : Int) < (c.toNat : Int) := by omega
        obtain ⟨t9, h9b⟩ : ∃ t : Bool, ((j : Int) == 9) = t ∧ t = true := ⟨_, rfl, h9b⟩
        obtain ⟨h9b, rfl⟩ := h9b
        go_wp2
        go_ret3
        refine ⟨?_, rfl⟩
        have : numTells s 0 = (0, 0, ((4 : Nat) : Int)) := numTells_err (by
          rw [HD.out, Hdrop.out]
          simp only [Wire.dec]
          rw [if_pos ⟨H9e.out, h1c⟩])
        rw [this]; rfl
      · have h9c : j = 9 → c.toNat ≤ 1 := fun h => by rcases Nat.lt_or_ge 1 c.toNat with h' | h'; exact absurd ⟨h, h'⟩ h9; exact h'
        have hfit := part_fits hj hcl h9c HU.out HA.out
        obtain ⟨U', hU1, hU2⟩ := unit_step hj HU.out
        obtain ⟨P, hP⟩ : ∃ P : Nat, c.toNat % 128 * U = P := ⟨_, rfl⟩
        rw [hP] at hfit
        obtain ⟨acc', hacc'⟩ : ∃ acc' : Nat, acc + P = acc' := ⟨_, rfl⟩
        rw [hacc'] at hfit
        have hm : IntKind.u64.wrap ((c.toNat : Int) % 128 * (U : Int)) = (P : Int) := by
          have e : (c.toNat : Int) % 128 * (U : Int) = (P : Int) := by rw [← hP]; simp
          rw [e, IntKind.wrap_u64]; omega
        have ha2 : IntKind.u64.wrap ((acc : Int) + (P : Int)) = (acc' : Int) := by rw [IntKind.wrap_u64]; omega
        have hacc2 : acc + c.toNat % 128 * 128 ^ j = acc' := by rw [← HU.out, hP]; exact hacc'
        have Hacc' := Lib.hid hacc2; clear hacc2
        have Hfit := Lib.hid hfit
        have HU2 := Lib.hid hU2; clear hU2 hP hacc' hfit
        have H9c := Lib.hid h9c; clear h9c
        have H9 := Lib.hid h9; clear h9
        obtain ⟨t9, h9b, h9d⟩ : ∃ t : Bool, ((j : Int) == 9) = t ∧ (t = true → c.toNat ≤ 1) :=
          ⟨_, rfl, fun h => by
            exact H9c.out (by have := of_decide_eq_true h; omega)⟩
        have h128j : 128 ≤ c.toNat → ¬ j = 9 := fun h1 h2 => by
          have h' : c.toNat ≤ 1 := H9c.out h2
          omega
        have H128j := Lib.hid h128j; clear h128j
        by_cases h128 : 128 ≤ c.toNat
        · have hj9 := H128j.out h128
          cases t9
          · clear h9d
            go_wp2
            case roundEnd =>
              refine ⟨⟨j + 1, acc', U', rfl, rfl, by go_num, by omega, by omega, ?_, ?_, ?_, by first | rfl | trivial⟩, by simp [intOf]; omega⟩
              · exact HU2.out (by omega)
              · show _ < _
                rw [← Hacc'.out]; exact acc_step HA.out
              · show _ = _
                rw [HD.out, Hdrop.out]
                simp only [Wire.dec]
                rw [if_neg H9.out, if_pos h128, Hacc'.out]
          · exact absurd (by have := of_decide_eq_true h9b; omega) hj9
        · by_cases hz : c.toNat = 0 ∧ 0 < j
          · have hz0 : ((c.toNat : Int) == 0) = true := by simp; omega
            have hz1 : (0 : Int) < (j : Int) := by omega
            have Hz := Lib.hid hz; clear hz
            cases t9
            all_goals
              first
                | (have h9e := h9d rfl; clear h9d)
                | clear h9d
              go_wp2
              go_ret3
              refine ⟨?_, rfl⟩
              have : numTells s 0 = (0, 0, ((4 : Nat) : Int)) := numTells_err (by
                rw [HD.out, Hdrop.out]
                simp only [Wire.dec]
                rw [if_neg H9.out, if_neg h128, if_pos Hz.out])
              rw [this]; rfl
          · have Hz := Lib.hid hz
            have hzb : ((c.toNat : Int) == 0) = true → j ≤ 0 := fun h => by
              have := of_decide_eq_true h
              omega
            have hfin : numTells s 0 = (Wire.unzz acc', 0 + (j + 1), 0) := numTells_ok (by
              rw [HD.out, Hdrop.out]
              simp only [Wire.dec]
              rw [if_neg H9.out, if_neg h128, if_neg Hz.out, ← Hacc'.out, Nat.mod_eq_of_lt (by omega)])
            have Hfin := Lib.hid hfin; clear hfin hz
            have hf := Hfit.out
            have e2 : IntKind.u64.wrap ((acc' : Int) / 2) = (acc' : Int) / 2 := by rw [IntKind.wrap_u64]; omega
            have e3 : IntKind.i64.wrap ((acc' : Int) / 2) = (acc' : Int) / 2 := IntWalk.i64_in _ (by omega)
            have e4 : IntKind.i64.wrap (-((acc' : Int) / 2)) = -((acc' : Int) / 2) := IntWalk.i64_in _ (by omega)
            have e5 : IntKind.i64.wrap (-((acc' : Int) / 2) - 1) = -((acc' : Int) / 2) - 1 := IntWalk.i64_in _ (by omega)
            clear hf
            cases t9
            all_goals
              first
                | (have h9e := h9d rfl; clear h9d)
                | clear h9d
              obtain ⟨tz, hz0, hz1⟩ : ∃ t : Bool, ((c.toNat : Int) == 0) = t ∧ (t = true → j ≤ 0) := ⟨_, rfl, hzb⟩
              clear hzb
              cases tz
              all_goals
                first
                  | (have h0e := hz1 rfl; clear hz1)
                  | clear hz1
                by_cases hodd : acc' % 2 = 1
                · have o1 : ((acc' : Int) % 2 == 1) = true := by simp; omega
                  have hu : -((acc' : Int) / 2) - 1 = Wire.unzz acc' := by
                    unfold Wire.unzz; rw [if_neg (by omega)]; omega
                  have Hu := Lib.hid hu; clear hu
                  go_wp2
                  all_goals
                    go_ret3
                    rw [Hfin.out, Hu.out, Nat.zero_add]
                    exact ⟨rfl, rfl⟩
                · have o1 : ((acc' : Int) % 2 == 1) = false := by simp; omega
                  have hu : (acc' : Int) / 2 = Wire.unzz acc' := by
                    unfold Wire.unzz; rw [if_pos (by omega)]; omega
                  have Hu := Lib.hid hu; clear hu
                  go_wp2
                  all_goals
                    go_ret3
                    rw [Hfin.out, Hu.out, Nat.zero_add]
                    exact ⟨rfl, rfl⟩
    · have b1 : decide ((s.size : Int) ≤ j) = true := by simp; omega
      have hnil : s.data.toList.drop j = [] := List.drop_of_length_le (by rw [len_data]; omega)
      have Hnil := Lib.hid hnil; clear hnil
      go_wp2
      go_ret3
      refine ⟨?_, rfl⟩
      have : numTells s 0 = (0, 0, ((5 : Nat) : Int)) := numTells_err (by rw [HD.out, Hnil.out]; rfl)
      rw [this]; rfl
end Go.Proofs.YtfmbadinfhpihaaGreat.Wi
namespace Go.Proofs.YtfmbadinfhpihaaGreat.Wi
open Go.RowKit

theorem numTells_le {s : ByteArray} {k : Nat} (hk : k ≤ s.size) (h0 : (numTells s k).2.2 = 0) : (numTells s k).2.1 ≤ s.size := by
  cases hd : Wire.dec 0 0 (s.data.toList.drop k) with
  | error x =>
    rw [numTells_err hd] at h0
    rcases Wire.dec_err _ _ _ _ hd with rfl | rfl <;> simp at h0
  | ok r =>
    obtain ⟨N, m⟩ := r
    obtain ⟨_, h2, _, _⟩ := Wire.enc_dec0 hd
    rw [numTells_ok hd]
    rw [List.length_drop, len_data] at h2
    show k + m ≤ s.size
    omega
/-- The reference's reader in block g: its bytes, its error. -/
def RrAt (g : Nat) (e : Int) (s : ByteArray) (w : World) : Prop := w.heap[g]? = some (.cells #[.string s, .int .i64 e] 175 (0, 0))
section
variable {g : Nat} {e : Int} {s : ByteArray} {w w' : World}
theorem RrAt.lt (h : RrAt g e s w) : g < w.heap.size := Blk.lt (t := 175) h
theorem RrAt.cell0 (h : RrAt g e s w) : w.cell? ⟨g, 0, none⟩ = some (.string s) := by rw [Lib.cell_of_heap h]; rfl
theorem RrAt.cell1 (h : RrAt g e s w) : w.cell? ⟨g, 1, none⟩ = some (.int .i64 e) := by rw [Lib.cell_of_heap h]; rfl
theorem RrAt.frozen (h : RrAt g e s w) (i : Nat) : w.frozen? ⟨g, i, none⟩ = false := Lib.frozen_of_heap h i
theorem RrAt.drewN (h : RrAt g e s w) (n : Nat) : RrAt g e s (w.drewN n) := h
theorem RrAt.set0 (h : RrAt g e s w) (x : ByteArray) : RrAt g e x (w.setCell ⟨g, 0, none⟩ (.string x)) := by
  unfold RrAt at h ⊢
  simp [World.setCell, Array.getElem?_modify, h]
theorem RrAt.set1 (h : RrAt g e s w) (x : Int) : RrAt g x s (w.setCell ⟨g, 1, none⟩ (.int .i64 x)) := by
  unfold RrAt at h ⊢
  simp [World.setCell, Array.getElem?_modify, h]
theorem RrAt.keep (h : RrAt g e s w) (e' : w'.heap[g]? = w.heap[g]?) : RrAt g e s w' := e'.trans h
end
theorem rrfail_any (g : Nat) (s : ByteArray) (x : Int) (w : World) (h : RrAt g 0 s w) :
    Calls Tryz.prog 223 #[.pointer (some ⟨g, 0, none⟩), .int .i64 x] w fun r w' => r = .returned (.tuple #[]) ∧ RrAt g x s w' ∧ Mv [g] [g] w w' := by
  have c1 := h.cell1
  have f1 := h.frozen 1
  have HO := Lib.hid (h.set1 x)
  clear h
  go_enter Tryz.func223, Tryz.ntmps223
  go_wp2
  go_end0
  exact ⟨rfl, HO.out, mv_set 1 _⟩
set_option maxHeartbeats 1000000 in
set_option maxRecDepth 10000 in
theorem rrNum_bad (g : Nat) (s : ByteArray) (x : Int) (w : World) (h : RrAt g 0 s w) (hs : s.size ≤ 1000000000) (hx0 : x ≠ 0) (hx : (numTells s 0).2.2 = x) :
    Calls Tryz.prog 166 #[.pointer (some ⟨g, 0, none⟩)] w fun r w' => r = .returned (.int .i64 0) ∧ RrAt g x s w' ∧ Mv [g] [g] w w' := by
  have c0 := h.cell0
  have c1 := h.cell1
  have HR := rrnum_any s w hs
  obtain ⟨v, hv⟩ : ∃ v, (numTells s 0).1 = v := ⟨_, rfl⟩
  obtain ⟨k', hk'⟩ : ∃ k', (numTells s 0).2.1 = k' := ⟨_, rfl⟩
  rw [hv, hk', hx] at HR
  have HRN := Lib.hid HR
  have H := Lib.hid h
  have hx' : (x != 0) = true := by simp [hx0]
  clear HR hv hk' hx h hx0
  go_enter Tryz.func166, Tryz.ntmps166
  go_wp2_with fail
  refine HRN.out.mono ?_
  rintro e w1 ⟨rfl, rfl⟩
  go_wp2_with fail
  refine (rrfail_any g s x _ H.out).mono ?_
  rintro e w2 ⟨rfl, hr2, hm2⟩
  go_wp2
  go_ret
  exact ⟨rfl, hr2, hm2⟩
set_option maxHeartbeats 1000000 in
set_option maxRecDepth 10000 in
theorem rrNum_ok (g : Nat) (s : ByteArray) (w : World) (h : RrAt g 0 s w) (hs : s.size ≤ 1000000000) (hx : (numTells s 0).2.2 = 0) :
    Calls Tryz.prog 166 #[.pointer (some ⟨g, 0, none⟩)] w fun r w' => r = .returned (.int .i64 (numTells s 0).1) ∧ RrAt g 0 (s.extract (numTells s 0).2.1 s.size) w' ∧ Mv [g] [g] w w' := by
  have c0 := h.cell0
  have c1 := h.cell1
  have f0 := h.frozen 0
  have HR := rrnum_any s w hs
  have hle := numTells_le (Nat.zero_le s.size) hx
  obtain ⟨v, hv⟩ : ∃ v, (numTells s 0).1 = v := ⟨_, rfl⟩
  obtain ⟨k', hk'⟩ : ∃ k', (numTells s 0).2.1 = k' := ⟨_, rfl⟩
  rw [hv, hk', hx] at HR
  rw [hk'] at hle
  rw [hv, hk']
  have HRN := Lib.hid HR
  have H := Lib.hid h
  have i1 : (k' : Int) ≤ s.size := by omega
  have i2 : (0 : Int) ≤ (k' : Int) := by omega
  clear HR hv hk' hx h
  go_enter Tryz.func166, Tryz.ntmps166
  go_wp2_with fail
  refine HRN.out.mono ?_
  rintro e w1 ⟨rfl, rfl⟩
  go_wp2
  go_ret
  exact ⟨rfl, H.out.set0 _, mv_set 0 _⟩
theorem rrEnd_any (g : Nat) (s : ByteArray) (x : Int) (w : World) (h : RrAt g x s w) (hs : s.size ≤ 1000000000) :
    Calls Tryz.prog 167 #[.pointer (some ⟨g, 0, none⟩)] w fun r w' => r = .returned (.int .i64 (if x ≠ 0 then x else if 0 < s.size then 4 else 0)) ∧ w = w' := by
  have c0 := h.cell0
  have c1 := h.cell1
  clear h
  by_cases hx0 : x = 0
  · subst hx0
    rw [if_neg (by decide)]
    by_cases hz : 0 < s.size
    · rw [if_pos hz]
      go_enter Tryz.func167, Tryz.ntmps167
      go_wp2
      go_ret
      exact ⟨rfl, rfl⟩
    · rw [if_neg hz]
      have hz0 : s.size = 0 := by omega
      go_enter Tryz.func167, Tryz.ntmps167
      go_wp2
      go_ret
      exact ⟨rfl, rfl⟩
  · rw [if_pos hx0]
    have hx' : (x != 0) = true := by simp [hx0]
    go_enter Tryz.func167, Tryz.ntmps167
    go_wp2
    go_ret
    exact ⟨rfl, rfl⟩
end Go.Proofs.YtfmbadinfhpihaaGreat.Wi
