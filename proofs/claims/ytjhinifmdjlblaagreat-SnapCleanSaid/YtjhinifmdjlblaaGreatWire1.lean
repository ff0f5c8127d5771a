/-
  Package wire's writer as contracts: NewWriter, Wrong, Fail, num, Bytes.
  Conditions: a writer that the call has made (its block and its row from B on); what it holds takes at most 10^9 bytes.
-/
import Derived.Test.YtjhinifmdjlblaaGreatAid
import Derived.Test.YtjhinifmdjlblaaGreatProg
import Derived.Test.YtjhinifmdjlblaaGreatWire0
import Derived.Test.YtjhinifmdjlblaaGreatMv
import Derived.Lib.Builder
import Derived.Deep.QuietTactic
import Derived.BigQuiet
import Derived.Deep.DeepCutAuto
import Derived.KernelRfl
namespace Go.Proofs.YtjhinifmdjlblaaGreat.Wi
open Go.RowKit

theorem info_byte : (Tryz.prog.info? 5).map (fun i => (i.zero, i.size, i.bytes)) = some (some (.int .u8 0), 1, 1) := by kernel_rfl
theorem ownsRow_keep {w w' : World} {base : Nat} {e : TypeId} {size : Nat} {v : Value} {n : Nat} {xs : List Value} (h : w.ownsRow base e size v n xs) (hb : ∀ k, v.ownBlock = some k → w'.heap[k]? = w.heap[k]?) : w'.ownsRow base e size v n xs := by
  obtain ⟨h1, h2⟩ := h
  refine ⟨h1, ?_⟩
  rcases h2 with h2 | ⟨g, cap, cur, hv, hg, hh, r⟩
  · exact .inl h2
  · exact .inr ⟨g, cap, cur, hv, hg, by rw [hb g (by rw [hv]; rfl)]; exact hh, r⟩

/-- A writer in block g: its error, its bytes; S are its blocks. -/
def WrAt (g : Nat) (S : List Nat) (e : Int) (bs : List UInt8) (w : World) : Prop :=
  ∃ v, S = g :: v.ownBlock.toList ∧ w.heap[g]? = some (.cells #[.int .i64 e, v] 131 (0, 0)) ∧ w.ownsRow 0 5 1 v (Lib.byteCells bs).length (Lib.byteCells bs) ∧ v.ownBlock ≠ some g
section
variable {g : Nat} {S : List Nat} {e : Int} {bs : List UInt8} {w w' : World}
theorem WrAt.own (h : WrAt g S e bs w) : g ∈ S := by obtain ⟨v, rfl, _⟩ := h; simp
theorem WrAt.keep (h : WrAt g S e bs w) (hb : ∀ k, k ∈ S → w'.heap[k]? = w.heap[k]?) : WrAt g S e bs w' := by
  obtain ⟨v, rfl, h2, h3, h4⟩ := h
  exact ⟨v, rfl, by rw [hb g (by simp)]; exact h2, ownsRow_keep h3 (fun k hk => hb k (by simp [hk])), h4⟩
theorem WrAt.cell0 (h : WrAt g S e bs w) : w.cell? ⟨g, 0, none⟩ = some (.int .i64 e) := by obtain ⟨v, _, h2, _⟩ := h; rw [Lib.cell_of_heap h2]; rfl
theorem WrAt.lt (h : WrAt g S e bs w) : g < w.heap.size := by obtain ⟨v, _, h2, _⟩ := h; exact Blk.lt h2
theorem WrAt.there (h : WrAt g S e bs w) : ∀ k, k ∈ S → k < w.heap.size := by
  have h1 := h.lt
  obtain ⟨v, rfl, h2, h3, h4⟩ := h
  intro k hk
  simp only [List.mem_cons, Option.mem_toList] at hk
  rcases hk with rfl | hk
  · exact h1
  · exact (h3.lt k hk).2
theorem WrAt.drewN (h : WrAt g S e bs w) (n : Nat) : WrAt g S e bs (w.drewN n) := h
theorem WrAt.frozen (h : WrAt g S e bs w) (i : Nat) : w.frozen? ⟨g, i, none⟩ = false := by
  obtain ⟨v, _, hb, _⟩ := h
  exact Lib.frozen_of_heap hb i
/-- The error turned, the bytes as they were. -/
theorem WrAt.setErr (h : WrAt g S e bs w) (x : Int) : WrAt g S x bs (w.setCell ⟨g, 0, none⟩ (.int .i64 x)) := by
  obtain ⟨v, rfl, h2, h3, h4⟩ := h
  obtain ⟨_, v', q1, q2, q3⟩ := Lib.BuilderAt.used (T := 131) (e := 5) (B := 0) (b := g) (p := .int .i64 e) (bs := Lib.byteCells bs) ⟨Nat.zero_le _, v, h2, h3, h4⟩ (.int .i64 x)
  have e1 : v' = v := by
    have c := Lib.cell_of_heap q1 1
    rw [World.cell?_setCell_other w ⟨g, 0, none⟩ ⟨g, 1, none⟩ _ (by simp), Lib.cell_of_heap h2] at c
    simpa using c.symm
  subst e1
  exact ⟨v', rfl, q1, q2, q3⟩
/-- Behind an append to a writer's row, ahead of the store; and behind it. -/
theorem WrAt.mid {sv : Value} {wr wx w3 : World} {v3 : Value} {n : Nat} {xs : List Value} (hbk : wr.heap[g]? = some (.cells #[.int .i64 e, sv] 131 (0, 0))) (hne : sv.ownBlock ≠ some g)
    (hx : wx.heap[g]? = wr.heap[g]?) (hxs : wr.heap.size ≤ wx.heap.size) (hgrow : wx.grownBy w3 sv.ownBlock) (hown : w3.ownsRow 0 5 1 v3 n xs) (hl : v3.ownBlock = sv.ownBlock ∨ ∃ k, v3.ownBlock = some k ∧ wx.heap.size ≤ k) (hf : Mv S (g :: sv.ownBlock.toList) w wx) :
    w3.heap[g]? = some (.cells #[.int .i64 e, sv] 131 (0, 0)) ∧ w3.cell? ⟨g, 0, none⟩ = some (.int .i64 e) ∧ w3.cell? ⟨g, 1, none⟩ = some sv ∧ w3.frozen? ⟨g, 1, none⟩ = false ∧ v3.ownBlock ≠ some g ∧ Mv S (g :: v3.ownBlock.toList) w w3 ∧ ∃ ao n' cap, v3 = .slice ao n' cap := by
  have hlt : g < wr.heap.size := Blk.lt hbk
  have hb3 : w3.heap[g]? = some (.cells #[.int .i64 e, sv] 131 (0, 0)) := by
    rw [hgrow.block g (by omega) (fun e' => hne e'.symm), hx]
    exact hbk
  refine ⟨hb3, by rw [Lib.cell_of_heap hb3]; rfl, by rw [Lib.cell_of_heap hb3]; rfl, Lib.frozen_of_heap hb3 1, fun h => ?_, hf.grown hgrow (by intro k hk; simp [hk]) (fun k hk => ?_), ?_⟩
  · rcases hl with h1 | ⟨k, h1, h2⟩
    · exact hne (h1.symm.trans h)
    · rw [h] at h1; injection h1; omega
  · simp only [List.mem_cons, Option.mem_toList] at hk ⊢
    rcases hk with hk | hk
    · exact .inl (.inl hk)
    · rcases hl with h1 | ⟨k', h1, h2⟩
      · rw [h1] at hk; exact .inl (.inr hk)
      · rw [h1] at hk; injection hk with hk; subst hk; exact .inr h2
  · rcases hown.2 with ⟨hv, _⟩ | ⟨g', cap, cur, hv, _⟩
    · exact ⟨_, _, _, hv⟩
    · exact ⟨_, _, _, hv⟩
theorem WrAt.stored {sv v3 : Value} {w3 : World} {n : Nat} (hb3 : w3.heap[g]? = some (.cells #[.int .i64 e, sv] 131 (0, 0))) (hown : w3.ownsRow 0 5 1 v3 n (Lib.byteCells bs)) (hn : n = (Lib.byteCells bs).length) (hne : v3.ownBlock ≠ some g) :
    WrAt g (g :: v3.ownBlock.toList) e bs (w3.setCell ⟨g, 1, none⟩ v3) := by
  subst hn
  obtain ⟨_, v', q1, q2, q3⟩ := Lib.BuilderAt.put (T := 131) (e := 5) (B := 0) (b := g) (p := .int .i64 e) (v := sv) (v' := v3) (bs' := Lib.byteCells bs) (Nat.zero_le _) hb3 hown (by decide)
  have e1 : v' = v3 := by
    have c := Lib.cell_of_heap q1 1
    rw [World.cell?_setCell_same' w3 ⟨g, 1, none⟩ v3 (by rw [Lib.cell_of_heap hb3]; rfl)] at c
    simpa using c.symm
  subst e1
  exact ⟨v', rfl, q1, q2, q3⟩
end

theorem wrong_any (b : Nat) (e : Int) (w : World) (h : w.cell? ⟨b, 0, none⟩ = some (.int .i64 e)) :
    Calls Tryz.prog 119 #[.pointer (some ⟨b, 0, none⟩)] w fun r w' => r = .returned (.int .i64 e) ∧ w = w' := by
  go_enter Tryz.func119, Tryz.ntmps119
  go_wp2
  go_ret
  exact ⟨rfl, rfl⟩

theorem newWriter_any (w : World) :
    Calls Tryz.prog 104 #[] w fun r w' => r = .returned (.pointer (some ⟨w.heap.size, 0, none⟩)) ∧ WrAt w.heap.size [w.heap.size] 0 [] w' ∧ Below w.heap.size w w' := by
  go_enter Tryz.func104, Tryz.ntmps104
  go_wp2
  go_ret
  refine ⟨rfl, ⟨.slice none 0 0, by simp [Value.ownBlock], by simp [World.alloc, -World.alloc_eq], ⟨rfl, .inl ⟨rfl, rfl⟩⟩, by simp [Value.ownBlock]⟩, (Below.refl _ _).alloc (Nat.le_refl _) _⟩

/-- The first error stays. -/
def failE (e x : Int) : Int := if e = 0 then x else e
set_option maxHeartbeats 400000 in
theorem fail_any (b : Nat) (e x : Int) (w : World) (h : w.cell? ⟨b, 0, none⟩ = some (.int .i64 e)) (hf : w.frozen? ⟨b, 0, none⟩ = false) :
    Calls Tryz.prog 137 #[.pointer (some ⟨b, 0, none⟩), .int .i64 x] w fun r w' => r = .returned (.tuple #[]) ∧ (if e = 0 then w.setCell ⟨b, 0, none⟩ (.int .i64 x) else w) = w' := by
  by_cases he : e = 0
  · subst he
    go_enter Tryz.func137, Tryz.ntmps137
    go_wp2
    go_end0
    exact ⟨rfl, rfl⟩
  · have he' : (e == 0) = false := by simp [he]
    go_enter Tryz.func137, Tryz.ntmps137
    go_wp2
    go_end0
    exact ⟨rfl, by simp⟩

set_option maxHeartbeats 1000000 in
set_option maxRecDepth 100000 in
/-- A number put. -/
theorem num_any (g : Nat) (S : List Nat) (e : Int) (bs : List UInt8) (v : Int) (h1 : -9223372036854775808 ≤ v) (h2 : v ≤ 9223372036854775807) (w : World) (h : WrAt g S e bs w) (hN : bs.length ≤ 1000000000) :
    Calls Tryz.prog 120 #[.pointer (some ⟨g, 0, none⟩), .int .i64 v] w fun r w' => r = .returned (.tuple #[]) ∧ ∃ S', WrAt g S' e (Wire.wNum bs v) w' ∧ Mv S S' w w' := by
  obtain ⟨i0, hi, hz0, hz1, hz2⟩ := info_parts info_byte
  have HW := Lib.hid h; clear h
  obtain ⟨Z, HZ⟩ : ∃ Z : Nat, Hid (Wire.zz v = Z) := ⟨_, rfl⟩
  have hZ : Z < 18446744073709551616 := by rw [← HZ.out]; exact Wire.zz_lt h1 h2
  have hZ2 : Z < 2 * 128 ^ 9 := by rw [← Wire.two64]; exact hZ
  clear hZ
  have HZ2 := Lib.hid hZ2; clear hZ2
  by_cases hs : 0 ≤ v
  all_goals
    go_enter Tryz.func120, Tryz.ntmps120
    go_wp2
    first
      | rw [zz_pos v hs h2]
      | rw [zz_neg v (by omega) h1]
    rw [HZ.out]
    clear hs h1 h2
    go_loopw [4] (fun n wr => ∃ (m d : Nat) (done : List UInt8) (S' : List Nat), n = .int .u64 m ∧ d ≤ 9 ∧ done.length = d ∧ Hid (m < 2 * 128 ^ (9 - d)) ∧ Hid (done ++ Wire.encF (9 - d) m = Wire.enc Z) ∧ Hid (WrAt g S' e (bs ++ done) wr) ∧ Mv S S' w wr) (fun n _ => (intOf n).toNat)
    case atStart => exact ⟨Z, 0, [], S, rfl, by omega, rfl, HZ2.out, rfl, by show WrAt _ _ _ _ _; simpa using HW.out, Mv.refl _ _⟩
    case round =>
      obtain ⟨m, d, done, S', rfl, hd, hdl, HM, HE, HWr, hb⟩ := hrel
      have hlt := HWr.out.lt
      have hsz := hb.size
      obtain ⟨sv, rfl, hbk, hown, hne⟩ := HWr.out
      have HK := Lib.hid hbk
      have c0 : wr.cell? ⟨g, 0, none⟩ = some (.int .i64 e) := HWr.out.cell0
      have c1 : wr.cell? ⟨g, 1, none⟩ = some sv := by rw [Lib.cell_of_heap hbk]; rfl
      have hlen : (Lib.byteCells (bs ++ done)).length = bs.length + d := by rw [Lib.byteCells_length, List.length_append, hdl]
      rw [hlen] at hown
      have Hlen := Lib.hid hlen
      have Hne := Lib.hid hne
      have Hdl := Lib.hid hdl
      clear hlen hbk hne hdl
      by_cases hm128 : m < 128
      · have hm8 : (m : Int) % 256 = (m : Int) := by omega
        have hm9 : (m : Int) < 128 := by omega
        go_wp2_with (at_builtin; refine wpList_append_any _ rfl _ _ 39 rfl 0 5 i0 (.int .u8 0) 1 1 Tryz.underlying39 hi hz0 hz1 hz2 rfl (by decide) _ _ _ rfl (hown.alloc _) (wr.heap.size + 1) (some ⟨wr.heap.size, 0, none⟩) 1 1 [.int .u8 (m : Int)] rfl ?c1 ?c2 ?c3 ?c4 ?c5 ?_)
        case c1 => exact reads_newV wr _ _ _ rfl rfl rfl (Nat.lt_succ_self _)
        case c2 => simp [Value.oneCell']
        case c3 => unfold maxLen; omega
        case c4 => omega
        case c5 => omega
        intro v3 w3 hown3 hgrow3 hlink3
        obtain ⟨hb3, d0, d1, f1, hne3, hbw3, ao, n', cap, rfl⟩ := WrAt.mid HK.out Hne.out (Below.heap_alloc wr _ _ hlt) (by simp) hgrow3 hown3 (hlink3.imp id (fun h => ⟨_, h, by simp⟩)) (hb.alloc _)
        have HB3 := Lib.hid hb3
        have Hne3 := Lib.hid hne3
        have Hown3 := Lib.hid hown3
        clear hb3 hown3 hown hgrow3 hlink3 hne3 c0 c1 hm8
        go_wp2
        go_end0
        refine ⟨rfl, _, ?_, hbw3.set_ (by simp) 1 _⟩
        have hfin : Wire.wNum bs v = bs ++ done ++ [UInt8.ofNat m] := by
          have h1 := HE.out
          rw [Wire.encF_small hm128] at h1
          unfold Wire.wNum
          rw [HZ.out, ← h1, List.append_assoc]
        rw [hfin]
        have hcells : Lib.byteCells (bs ++ done ++ [UInt8.ofNat m]) = Lib.byteCells (bs ++ done) ++ [.int .u8 (m : Int)] := by
          rw [Lib.byteCells_append]
          simp only [Lib.byteCells, List.map_cons, List.map_nil, Wire.ofNat_lt (show m < 256 by omega)]
        exact WrAt.stored HB3.out (by rw [hcells]; exact Hown3.out) (by rw [hcells, List.length_append, Hlen.out]; rfl) Hne3.out
      · have hor := or_top m
        have hd8 : d < 9 := by
          rcases Nat.lt_or_ge d 9 with h | h
          · exact h
          · have := HM.out; rw [show 9 - d = 0 from by omega] at this; omega
        obtain ⟨x, hx, hx2⟩ : ∃ x : Nat, x = m % 128 + 128 ∧ x < 256 := ⟨_, rfl, by omega⟩
        rw [← hx] at hor
        have HX := Lib.hid hx; clear hx
        go_wp2_with (at_builtin; refine wpList_append_any _ rfl _ _ 39 rfl 0 5 i0 (.int .u8 0) 1 1 Tryz.underlying39 hi hz0 hz1 hz2 rfl (by decide) _ _ _ rfl (hown.alloc _) (wr.heap.size + 1) (some ⟨wr.heap.size, 0, none⟩) 1 1 [.int .u8 (x : Int)] rfl ?d1 ?d2 ?d3 ?d4 ?d5 ?_)
        case d1 => exact reads_newV wr _ _ _ rfl rfl rfl (Nat.lt_succ_self _)
        case d2 => simp [Value.oneCell']
        case d3 => unfold maxLen; omega
        case d4 => omega
        case d5 => omega
        intro v3 w3 hown3 hgrow3 hlink3
        obtain ⟨hb3, d0, d1, f1, hne3, hbw3, ao, n', cap, rfl⟩ := WrAt.mid HK.out Hne.out (Below.heap_alloc wr _ _ hlt) (by simp) hgrow3 hown3 (hlink3.imp id (fun h => ⟨_, h, by simp⟩)) (hb.alloc _)
        have HB3 := Lib.hid hb3
        have Hne3 := Lib.hid hne3
        have Hown3 := Lib.hid hown3
        clear hb3 hown3 hown hgrow3 hlink3 hne3 c0 c1 hor
        go_wp2
        go_roundw
        case rel =>
          refine ⟨m / 128, d + 1, done ++ [UInt8.ofNat x], _, by go_num, by omega, by rw [List.length_append, Hdl.out]; rfl, ?_, ?_, ?_, hbw3.set_ (by simp) 1 _⟩
          · show _ < _
            have h1 := HM.out
            rw [show 9 - d = (9 - (d + 1)) + 1 from by omega, Nat.pow_succ] at h1
            omega
          · show _ = _
            have h1 := HE.out
            rw [show 9 - d = (9 - (d + 1)) + 1 from by omega, Wire.encF_more hm128, ← HX.out] at h1
            rw [List.append_assoc]
            exact h1
          · show WrAt _ _ _ _ _
            have hcells : Lib.byteCells (bs ++ (done ++ [UInt8.ofNat x])) = Lib.byteCells (bs ++ done) ++ [.int .u8 (x : Int)] := by
              rw [← List.append_assoc, Lib.byteCells_append]
              simp only [Lib.byteCells, List.map_cons, List.map_nil, Wire.ofNat_lt hx2]
            exact WrAt.stored HB3.out (by rw [hcells]; exact Hown3.out) (by rw [hcells, List.length_append, Hlen.out]; rfl) Hne3.out
        case measure => simp [intOf]; omega
end Go.Proofs.YtjhinifmdjlblaaGreat.Wi
