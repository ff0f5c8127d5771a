/-
  Package wire's writer as contracts: Bool of many, Bytes, Fail.
  Conditions: a writer that the call has made; what is put lies in memory that a writer does not write; what it holds in the end takes at most 10^9 bytes.
-/
import Derived.Test.YtfmbadinfhpihaaGreatWalPlain
import Derived.Test.YtfmbadinfhpihaaGreatBuilder
import Derived.IntWalk
import Derived.Test.YtfmbadinfhpihaaGreatWords2
import Derived.Test.YtfmbadinfhpihaaGreatProg
import Derived.Lib.Builder
import Derived.Deep.QuietTactic
import Derived.BigQuiet
import Derived.Deep.DeepCutAuto
import Derived.KernelRfl
import Derived.Lib.AppendStr
import Derived.WalkSpells
import Derived.WalkLawsBesides
set_option linter.unusedVariables false
set_option linter.unusedSimpArgs false
namespace Go.Proofs.YtfmbadinfhpihaaGreat
open Go.RowKit

theorem not_u64 (x : Nat) (h : x < 18446744073709551616) : bits .xor .u64 (x : Int) 18446744073709551615 = ((18446744073709551615 - x : Nat) : Int) := by
  have h1 := u64_xor_nat x 18446744073709551615 h (by omega)
  have h2 : x ^^^ 18446744073709551615 = 18446744073709551615 - x := by
    have h3 : (BitVec.ofNat 64 x ^^^ BitVec.allOnes 64).toNat = (~~~ BitVec.ofNat 64 x).toNat := by rw [BitVec.xor_comm, BitVec.allOnes_xor]
    rw [BitVec.toNat_xor, BitVec.toNat_not, BitVec.toNat_allOnes, BitVec.toNat_ofNat, Nat.mod_eq_of_lt h] at h3
    exact h3
  rw [h2] at h1
  exact h1
theorem zz_pos (v : Int) (h1 : 0 ≤ v) (h2 : v ≤ 9223372036854775807) : bits .xor .u64 (v * 2) (v / 9223372036854775808) = ((Wire.zz v : Nat) : Int) := by
  have e1 : v / 9223372036854775808 = ((0 : Nat) : Int) := by omega
  have e2 : v * 2 = (((2 * v).toNat : Nat) : Int) := by omega
  rw [e1, e2, u64_xor_nat _ _ (by omega) (by omega), Nat.xor_zero]
  unfold Wire.zz
  rw [if_pos h1]
theorem zz_neg (v : Int) (h1 : v < 0) (h2 : -9223372036854775808 ≤ v) : bits .xor .u64 (IntKind.u64.wrap (IntKind.u64.wrap v * 2)) (IntKind.u64.wrap (v / 9223372036854775808)) = ((Wire.zz v : Nat) : Int) := by
  have e1 : IntKind.u64.wrap (v / 9223372036854775808) = 18446744073709551615 := by rw [IntKind.wrap_u64]; omega
  have e2 : IntKind.u64.wrap (IntKind.u64.wrap v * 2) = (((2 * v + 18446744073709551616).toNat : Nat) : Int) := by rw [IntKind.wrap_u64, IntKind.wrap_u64]; omega
  rw [e1, e2, not_u64 _ (by omega)]
  unfold Wire.zz
  rw [if_neg (by omega)]
  omega
theorem or_top (m : Nat) : bits .or .u8 ((m : Int) % 256) 128 = ((m % 128 + 128 : Nat) : Int) := by
  have h1 := u8_or_nat (m % 256) 128 (by omega) (by decide)
  have h2 : ∀ x : Fin 256, x.val ||| 128 = x.val % 128 + 128 := by decide +kernel
  have h3 := h2 ⟨m % 256, by omega⟩
  simp only at h3
  rw [h3] at h1
  have e1 : ((m % 256 : Nat) : Int) = (m : Int) % 256 := by omega
  rw [e1] at h1
  have e2 : m % 256 % 128 + 128 = m % 128 + 128 := by omega
  rw [e2] at h1
  exact h1

/-! ### a group put back -/
theorem or_group (acc c j : Nat) (hj : j ≤ 9) (hc : c < 256) (h9 : j = 9 → c ≤ 1) (hacc : acc < 128 ^ j) :
    bits .or .u64 (acc : Int) (IntKind.u64.wrap ((c : Int) % 128 * 2 ^ (7 * j))) = ((acc + c % 128 * 128 ^ j : Nat) : Int) := by
  have hp : (128 : Nat) ^ j = 2 ^ (7 * j) := by rw [Nat.pow_mul]
  have hle : 128 ^ j ≤ 128 ^ 9 := Nat.pow_le_pow_right (by omega) hj
  have h99 : (128 : Nat) ^ 9 = 9223372036854775808 := by decide
  have h88 : (128 : Nat) ^ 8 = 72057594037927936 := by decide
  have hlt : c % 128 * 128 ^ j < 18446744073709551616 := by
    by_cases h : j = 9
    · have h1 := h9 h
      subst h
      rw [h99]
      have : c % 128 ≤ 1 := by omega
      have := Nat.mul_le_mul_right 9223372036854775808 this
      omega
    · have hle8 : 128 ^ j ≤ 128 ^ 8 := Nat.pow_le_pow_right (by omega) (by omega)
      have h1 : c % 128 ≤ 127 := by omega
      have := Nat.mul_le_mul h1 hle8
      rw [h88] at this
      omega
  have e1 : ((c : Int) % 128 * 2 ^ (7 * j)) = ((c % 128 * 128 ^ j : Nat) : Int) := by rw [hp]; simp
  have e2 : IntKind.u64.wrap ((c : Int) % 128 * 2 ^ (7 * j)) = ((c % 128 * 128 ^ j : Nat) : Int) := by
    rw [e1, IntKind.wrap_u64]; omega
  rw [e2, u64_or_nat acc _ (by omega) hlt, Nat.or_comm]
  have h1 : (c % 128 * 128 ^ j) % 2 ^ (7 * j) = 0 := by rw [hp]; exact Nat.mul_mod_left _ _
  rw [nat_join (7 * j) _ acc h1 (by rw [← hp]; exact hacc), Nat.add_comm]
theorem acc_step {acc c j : Nat} (hacc : acc < 128 ^ j) : acc + c % 128 * 128 ^ j < 128 ^ (j + 1) := by
  have h1 : c % 128 ≤ 127 := by omega
  have h2 := Nat.mul_le_mul_right (128 ^ j) h1
  rw [Nat.pow_succ]
  omega
theorem acc_last {acc c j : Nat} (hj : j ≤ 9) (hc : c < 128) (h9 : j = 9 → c ≤ 1) (hacc : acc < 128 ^ j) : acc + c * 128 ^ j < 18446744073709551616 := by
  have h99 : (128 : Nat) ^ 9 = 9223372036854775808 := by decide
  by_cases h : j = 9
  · have h1 := h9 h
    subst h
    rw [h99] at *
    have := Nat.mul_le_mul_right 9223372036854775808 h1
    omega
  · have h1 : c ≤ 127 := by omega
    have h2 := Nat.mul_le_mul_right (128 ^ j) h1
    have h3 : 128 ^ (j + 1) ≤ 128 ^ 9 := Nat.pow_le_pow_right (by omega) (by omega)
    rw [Nat.pow_succ, h99] at h3
    omega
theorem and_low (c : Nat) (hc : c < 256) : bits .and .u8 (c : Int) 127 = (c : Int) % 128 := by
  have h := u8_and_nat c 127 hc (by decide)
  rw [nat_mask7] at h
  rw [show ((127 : Nat) : Int) = 127 from rfl] at h
  rw [h]; omega
theorem and_top (c : Nat) (hc : c < 256) : bits .and .u8 (c : Int) 128 = if 128 ≤ c then 128 else 0 := by
  have h := u8_and_nat c 128 hc (by decide)
  have h2 : ∀ x : Fin 256, x.val &&& 128 = if 128 ≤ x.val then 128 else 0 := by decide +kernel
  have h3 := h2 ⟨c, hc⟩
  simp only at h3
  rw [h3] at h
  rw [show ((128 : Nat) : Int) = 128 from rfl] at h
  rw [h]; split <;> rfl
theorem xor_none (m : Nat) (h : m < 9223372036854775808) : bits .xor .i64 (m : Int) 0 = (m : Int) := by
  show IntKind.i64.wrap ((BitVec.ofInt 64 (m : Int) ^^^ BitVec.ofInt 64 0).toNat : Int) = _
  have : BitVec.ofInt 64 0 = 0#64 := by decide
  rw [this, BitVec.xor_zero, ofInt_i64' m h, IntKind.wrap_i64]
  omega
theorem xor_all (m : Nat) (h : m < 9223372036854775808) : bits .xor .i64 (m : Int) (-1) = -(m : Int) - 1 := by
  show IntKind.i64.wrap ((BitVec.ofInt 64 (m : Int) ^^^ BitVec.ofInt 64 (-1)).toNat : Int) = _
  have : BitVec.ofInt 64 (-1) = BitVec.allOnes 64 := by decide
  rw [this, BitVec.xor_comm, BitVec.allOnes_xor, BitVec.toNat_not, ofInt_i64' m h, IntKind.wrap_i64]
  omega
theorem and_one (m : Nat) (h : m < 18446744073709551616) : bits .and .u64 (m : Int) 1 = ((m % 2 : Nat) : Int) := by
  have := u64_and_nat m 1 h (by omega)
  rw [nat_mask1] at this
  exact this
end Go.Proofs.YtfmbadinfhpihaaGreat
namespace Go.Proofs.YtfmbadinfhpihaaGreat.Wi
open Go.RowKit

theorem info_byte : (Tryz.prog.info? 5).map (fun i => (i.zero, i.size, i.bytes)) = some (some (.int .u8 0), 1, 1) := by kernel_rfl
theorem ownsRow_keep {w w' : World} {base : Nat} {e : TypeId} {size : Nat} {v : Value} {n : Nat} {xs : List Value} (h : w.ownsRow base e size v n xs) (hb : ∀ k, v.ownBlock = some k → w'.heap[k]? = w.heap[k]?) : w'.ownsRow base e size v n xs := by
  obtain ⟨h1, h2⟩ := h
  refine ⟨h1, ?_⟩
  rcases h2 with h2 | ⟨g, cap, cur, hv, hg, hh, r⟩
  · exact .inl h2
  · exact .inr ⟨g, cap, cur, hv, hg, by rw [hb g (by rw [hv]; rfl)]; exact hh, r⟩

/-- A writer in block g: its error, its bytes; S are its blocks. -/
def WrAt (g : Nat) (S : List Nat) (e : Int) (bs : List UInt8) (w : World) : Prop :=
  ∃ v, S = g :: v.ownBlock.toList ∧ w.heap[g]? = some (.cells #[.int .i64 e, v] 275 (0, 0)) ∧ w.ownsRow 0 5 1 v (Lib.byteCells bs).length (Lib.byteCells bs) ∧ v.ownBlock ≠ some g
section
variable {g : Nat} {S : List Nat} {e : Int} {bs : List UInt8} {w w' : World}
theorem WrAt.own (h : WrAt g S e bs w) : g ∈ S := by obtain ⟨v, rfl, _⟩ := h; simp
theorem WrAt.keep (h : WrAt g S e bs w) (hb : ∀ k, k ∈ S → w'.heap[k]? = w.heap[k]?) : WrAt g S e bs w' := by
  obtain ⟨v, rfl, h2, h3, h4⟩ := h
  exact ⟨v, rfl, by rw [hb g (by simp)]; exact h2, ownsRow_keep h3 (fun k hk => hb k (by simp [hk])), h4⟩
theorem WrAt.cell0 (h : WrAt g S e bs w) : w.cell? ⟨g, 0, none⟩ = some (.int .i64 e) := by obtain ⟨v, _, h2, _⟩ := h; rw [Lib.cell_of_heap h2]; rfl
theorem WrAt.lt (h : WrAt g S e bs w) : g < w.heap.size := by obtain ⟨v, _, h2, _⟩ := h; exact Blk.lt h2
theorem WrAt.there (h : WrAt g S e bs w) : ∀ k, k ∈ S → k < w.heap.size := by
  have h1 := h.lt
  obtain ⟨v, rfl, h2, h3, h4⟩ := h
  intro k hk
  simp only [List.mem_cons, Option.mem_toList] at hk
  rcases hk with rfl | hk
  · exact h1
  · exact (h3.lt k hk).2
theorem WrAt.drewN (h : WrAt g S e bs w) (n : Nat) : WrAt g S e bs (w.drewN n) := h
theorem WrAt.frozen (h : WrAt g S e bs w) (i : Nat) : w.frozen? ⟨g, i, none⟩ = false := by
  obtain ⟨v, _, hb, _⟩ := h
  exact Lib.frozen_of_heap hb i
/-- The error turned, the bytes as they were. -/
theorem WrAt.setErr (h : WrAt g S e bs w) (x : Int) : WrAt g S x bs (w.setCell ⟨g, 0, none⟩ (.int .i64 x)) := by
  obtain ⟨v, rfl, h2, h3, h4⟩ := h
  obtain ⟨_, v', q1, q2, q3⟩ := Lib.BuilderAt.used (T := 275) (e := 5) (B := 0) (b := g) (p := .int .i64 e) (bs := Lib.byteCells bs) ⟨Nat.zero_le _, v, h2, h3, h4⟩ (.int .i64 x)
  have e1 : v' = v := by
    have c := Lib.cell_of_heap q1 1
    rw [World.cell?_setCell_other w ⟨g, 0, none⟩ ⟨g, 1, none⟩ _ (by simp), Lib.cell_of_heap h2] at c
    simpa using c.symm
  subst e1
  exact ⟨v', rfl, q1, q2, q3⟩
/-- Behind an append to a writer's row, ahead of the store; and behind it. -/
theorem WrAt.mid {sv : Value} {wr wx w3 : World} {v3 : Value} {n : Nat} {xs : List Value} (hbk : wr.heap[g]? = some (.cells #[.int .i64 e, sv] 275 (0, 0))) (hne : sv.ownBlock ≠ some g)
    (hx : wx.heap[g]? = wr.heap[g]?) (hxs : wr.heap.size ≤ wx.heap.size) (hgrow : wx.grownBy w3 sv.ownBlock) (hown : w3.ownsRow 0 5 1 v3 n xs) (hl : v3.ownBlock = sv.ownBlock ∨ ∃ k, v3.ownBlock = some k ∧ wx.heap.size ≤ k) (hf : Mv S (g :: sv.ownBlock.toList) w wx) :
    w3.heap[g]? = some (.cells #[.int .i64 e, sv] 275 (0, 0)) ∧ w3.cell? ⟨g, 0, none⟩ = some (.int .i64 e) ∧ w3.cell? ⟨g, 1, none⟩ = some sv ∧ w3.frozen? ⟨g, 1, none⟩ = false ∧ v3.ownBlock ≠ some g ∧ Mv S (g :: v3.ownBlock.toList) w w3 ∧ ∃ ao n' cap, v3 = .slice ao n' cap := by
  have hlt : g < wr.heap.size := Blk.lt hbk
  have hb3 : w3.heap[g]? = some (.cells #[.int .i64 e, sv] 275 (0, 0)) := by
    rw [hgrow.block g (by omega) (fun e' => hne e'.symm), hx]
    exact hbk
  refine ⟨hb3, by rw [Lib.cell_of_heap hb3]; rfl, by rw [Lib.cell_of_heap hb3]; rfl, Lib.frozen_of_heap hb3 1, fun h => ?_, hf.grown hgrow (by intro k hk; simp [hk]) (fun k hk => ?_), ?_⟩
  · rcases hl with h1 | ⟨k, h1, h2⟩
    · exact hne (h1.symm.trans h)
    · rw [h] at h1; injection h1; omega
  · simp only [List.mem_cons, Option.mem_toList] at hk ⊢
    rcases hk with hk | hk
    · exact .inl (.inl hk)
    · rcases hl with h1 | ⟨k', h1, h2⟩
      · rw [h1] at hk; exact .inl (.inr hk)
      · rw [h1] at hk; injection hk with hk; subst hk; exact .inr h2
  · rcases hown.2 with ⟨hv, _⟩ | ⟨g', cap, cur, hv, _⟩
    · exact ⟨_, _, _, hv⟩
    · exact ⟨_, _, _, hv⟩
theorem WrAt.stored {sv v3 : Value} {w3 : World} {n : Nat} (hb3 : w3.heap[g]? = some (.cells #[.int .i64 e, sv] 275 (0, 0))) (hown : w3.ownsRow 0 5 1 v3 n (Lib.byteCells bs)) (hn : n = (Lib.byteCells bs).length) (hne : v3.ownBlock ≠ some g) :
    WrAt g (g :: v3.ownBlock.toList) e bs (w3.setCell ⟨g, 1, none⟩ v3) := by
  subst hn
  obtain ⟨_, v', q1, q2, q3⟩ := Lib.BuilderAt.put (T := 275) (e := 5) (B := 0) (b := g) (p := .int .i64 e) (v := sv) (v' := v3) (bs' := Lib.byteCells bs) (Nat.zero_le _) hb3 hown (by decide)
  have e1 : v' = v3 := by
    have c := Lib.cell_of_heap q1 1
    rw [World.cell?_setCell_same' w3 ⟨g, 1, none⟩ v3 (by rw [Lib.cell_of_heap hb3]; rfl)] at c
    simpa using c.symm
  subst e1
  exact ⟨v', rfl, q1, q2, q3⟩
end

theorem wrong_any (b : Nat) (e : Int) (w : World) (h : w.cell? ⟨b, 0, none⟩ = some (.int .i64 e)) :
    Calls Tryz.prog 216 #[.pointer (some ⟨b, 0, none⟩)] w fun r w' => r = .returned (.int .i64 e) ∧ w = w' := by
  go_enter Tryz.func216, Tryz.ntmps216
  go_wp2
  go_ret
  exact ⟨rfl, rfl⟩

theorem newWriter_any (w : World) :
    Calls Tryz.prog 156 #[] w fun r w' => r = .returned (.pointer (some ⟨w.heap.size, 0, none⟩)) ∧ WrAt w.heap.size [w.heap.size] 0 [] w' ∧ Below w.heap.size w w' := by
  go_enter Tryz.func156, Tryz.ntmps156
  go_wp2
  go_ret
  refine ⟨rfl, ⟨.slice none 0 0, by simp [Value.ownBlock], by simp [World.alloc, -World.alloc_eq], ⟨rfl, .inl ⟨rfl, rfl⟩⟩, by simp [Value.ownBlock]⟩, (Below.refl _ _).alloc (Nat.le_refl _) _⟩

/-- The first error stays. -/
def failE (e x : Int) : Int := if e = 0 then x else e
set_option maxHeartbeats 400000 in
theorem fail_any (b : Nat) (e x : Int) (w : World) (h : w.cell? ⟨b, 0, none⟩ = some (.int .i64 e)) (hf : w.frozen? ⟨b, 0, none⟩ = false) :
    Calls Tryz.prog 231 #[.pointer (some ⟨b, 0, none⟩), .int .i64 x] w fun r w' => r = .returned (.tuple #[]) ∧ (if e = 0 then w.setCell ⟨b, 0, none⟩ (.int .i64 x) else w) = w' := by
  by_cases he : e = 0
  · subst he
    go_enter Tryz.func231, Tryz.ntmps231
    go_wp2
    go_end0
    exact ⟨rfl, rfl⟩
  · have he' : (e == 0) = false := by simp [he]
    go_enter Tryz.func231, Tryz.ntmps231
    go_wp2
    go_end0
    exact ⟨rfl, by simp⟩

set_option maxHeartbeats 1000000 in
set_option maxRecDepth 100000 in
/-- A number put. -/
theorem num_any (g : Nat) (S : List Nat) (e : Int) (bs : List UInt8) (v : Int) (h1 : -9223372036854775808 ≤ v) (h2 : v ≤ 9223372036854775807) (w : World) (h : WrAt g S e bs w) (hN : bs.length ≤ 1000000000) :
    Calls Tryz.prog 217 #[.pointer (some ⟨g, 0, none⟩), .int .i64 v] w fun r w' => r = .returned (.tuple #[]) ∧ ∃ S', WrAt g S' e (Wire.wNum bs v) w' ∧ Mv S S' w w' := by
  obtain ⟨i0, hi, hz0, hz1, hz2⟩ := info_parts info_byte
  have HW := Lib.hid h; clear h
  obtain ⟨Z, HZ⟩ : ∃ Z : Nat, Hid (Wire.zz v = Z) := ⟨_, rfl⟩
  have hZ : Z < 18446744073709551616 := by rw [← HZ.out]; exact Wire.zz_lt h1 h2
  have hZ2 : Z < 2 * 128 ^ 9 := by rw [← Wire.two64]; exact hZ
  clear hZ
  have HZ2 := Lib.hid hZ2; clear hZ2
  by_cases hs : 0 ≤ v
  all_goals
    go_enter Tryz.func217, Tryz.ntmps217
    go_wp2
    first
      | rw [zz_pos v hs h2]
      | rw [zz_neg v (by omega) h1]
    rw [HZ.out]
    clear hs h1 h2
    go_loopw [4] (fun n wr => ∃ (m d : Nat) (done : List UInt8) (S' : List Nat), n = .int .u64 m ∧ d ≤ 9 ∧ done.length = d ∧ Hid (m < 2 * 128 ^ (9 - d)) ∧ Hid (done ++ Wire.encF (9 - d) m = Wire.enc Z) ∧ Hid (WrAt g S' e (bs ++ done) wr) ∧ Mv S S' w wr) (fun n _ => (intOf n).toNat)
    case atStart => exact ⟨Z, 0, [], S, rfl, by omega, rfl, HZ2.out, rfl, by show WrAt _ _ _ _ _; simpa using HW.out, Mv.refl _ _⟩
    case round =>
      obtain ⟨m, d, done, S', rfl, hd, hdl, HM, HE, HWr, hb⟩ := hrel
      have hlt := HWr.out.lt
      have hsz := hb.size
      obtain ⟨sv, rfl, hbk, hown, hne⟩ := HWr.out
      have HK := Lib.hid hbk
      have c0 : wr.cell? ⟨g, 0, none⟩ = some (.int .i64 e) := HWr.out.cell0
      have c1 : wr.cell? ⟨g, 1, none⟩ = some sv := by rw [Lib.cell_of_heap hbk]; rfl
      have hlen : (Lib.byteCells (bs ++ done)).length = bs.length + d := by rw [Lib.byteCells_length, List.length_append, hdl]
      rw [hlen] at hown
      have Hlen := Lib.hid hlen
      have Hne := Lib.hid hne
      have Hdl := Lib.hid hdl
      clear hlen hbk hne hdl
      by_cases hm128 : m < 128
      · have hm8 : (m : Int) % 256 = (m : Int) := by omega
        have hm9 : (m : Int) < 128 := by omega
        go_wp2_with (at_builtin; refine wpList_append_any _ rfl _ _ 48 rfl 0 5 i0 (.int .u8 0) 1 1 Tryz.underlying48 hi hz0 hz1 hz2 rfl (by decide) _ _ _ rfl (hown.alloc _) (wr.heap.size + 1) (some ⟨wr.heap.size, 0, none⟩) 1 1 [.int .u8 (m : Int)] rfl ?c1 ?c2 ?c3 ?c4 ?c5 ?_)
        case c1 => exact reads_newV wr _ _ _ rfl rfl rfl (Nat.lt_succ_self _)
        case c2 => simp [Value.oneCell']
        case c3 => unfold maxLen; omega
        case c4 => omega
        case c5 => omega
        intro v3 w3 hown3 hgrow3 hlink3
        obtain ⟨hb3, d0, d1, f1, hne3, hbw3, ao, n', cap, rfl⟩ := WrAt.mid HK.out Hne.out (Below.heap_alloc wr _ _ hlt) (by simp) hgrow3 hown3 (hlink3.imp id (fun h => ⟨_, h, by simp⟩)) (hb.alloc _)
        have HB3 := Lib.hid hb3
        have Hne3 := Lib.hid hne3
        have Hown3 := Lib.hid hown3
        clear hb3 hown3 hown hgrow3 hlink3 hne3 c0 c1 hm8
        go_wp2
        go_end0
        refine ⟨rfl, _, ?_, hbw3.set_ (by simp) 1 _⟩
        have hfin : Wire.wNum bs v = bs ++ done ++ [UInt8.ofNat m] := by
          have h1 := HE.out
          rw [Wire.encF_small hm128] at h1
          unfold Wire.wNum
          rw [HZ.out, ← h1, List.append_assoc]
        rw [hfin]
        have hcells : Lib.byteCells (bs ++ done ++ [UInt8.ofNat m]) = Lib.byteCells (bs ++ done) ++ [.int .u8 (m : Int)] := by
          rw [Lib.byteCells_append]
          simp only [Lib.byteCells, List.map_cons, List.map_nil, Wire.ofNat_lt (show m < 256 by omega)]
        exact WrAt.stored HB3.out (by rw [hcells]; exact Hown3.out) (by rw [hcells, List.length_append, Hlen.out]; rfl) Hne3.out
      · have hor := or_top m
        have hd8 : d < 9 := by
          rcases Nat.lt_or_ge d 9 with h | h
          · exact h
          · have := HM.out; rw [show 9 - d = 0 from by omega] at this; omega
        obtain ⟨x, hx, hx2⟩ : ∃ x : Nat, x = m % 128 + 128 ∧ x < 256 := ⟨_, rfl, by omega⟩
        rw [← hx] at hor
        have HX := Lib.hid hx; clear hx
        go_wp2_with (at_builtin; refine wpList_append_any _ rfl _ _ 48 rfl 0 5 i0 (.int .u8 0) 1 1 Tryz.underlying48 hi hz0 hz1 hz2 rfl (by decide) _ _ _ rfl (hown.alloc _) (wr.heap.size + 1) (some ⟨wr.heap.size, 0, none⟩) 1 1 [.int .u8 (x : Int)] rfl ?d1 ?d2 ?d3 ?d4 ?d5 ?_)
        case d1 => exact reads_newV wr _ _ _ rfl rfl rfl (Nat.lt_succ_self _)
        case d2 => simp [Value.oneCell']
        case d3 => unfold maxLen; omega
        case d4 => omega
        case d5 => omega
        intro v3 w3 hown3 hgrow3 hlink3
        obtain ⟨hb3, d0, d1, f1, hne3, hbw3, ao, n', cap, rfl⟩ := WrAt.mid HK.out Hne.out (Below.heap_alloc wr _ _ hlt) (by simp) hgrow3 hown3 (hlink3.imp id (fun h => ⟨_, h, by simp⟩)) (hb.alloc _)
        have HB3 := Lib.hid hb3
        have Hne3 := Lib.hid hne3
        have Hown3 := Lib.hid hown3
        clear hb3 hown3 hown hgrow3 hlink3 hne3 c0 c1 hor
        go_wp2
        go_roundw
        case rel =>
          refine ⟨m / 128, d + 1, done ++ [UInt8.ofNat x], _, by go_num, by omega, by rw [List.length_append, Hdl.out]; rfl, ?_, ?_, ?_, hbw3.set_ (by simp) 1 _⟩
          · show _ < _
            have h1 := HM.out
            rw [show 9 - d = (9 - (d + 1)) + 1 from by omega, Nat.pow_succ] at h1
            omega
          · show _ = _
            have h1 := HE.out
            rw [show 9 - d = (9 - (d + 1)) + 1 from by omega, Wire.encF_more hm128, ← HX.out] at h1
            rw [List.append_assoc]
            exact h1
          · show WrAt _ _ _ _ _
            have hcells : Lib.byteCells (bs ++ (done ++ [UInt8.ofNat x])) = Lib.byteCells (bs ++ done) ++ [.int .u8 (x : Int)] := by
              rw [← List.append_assoc, Lib.byteCells_append]
              simp only [Lib.byteCells, List.map_cons, List.map_nil, Wire.ofNat_lt hx2]
            exact WrAt.stored HB3.out (by rw [hcells]; exact Hown3.out) (by rw [hcells, List.length_append, Hlen.out]; rfl) Hne3.out
        case measure => simp [intOf]; omega
end Go.Proofs.YtfmbadinfhpihaaGreat.Wi
namespace Go.Proofs.YtfmbadinfhpihaaGreat.Wi
open Go.RowKit

theorem foldl_snoc {α β : Type} (f : β → α → β) (b : β) {l : List α} {k : Nat} {u : α} (h : l[k]? = some u) : (l.take (k + 1)).foldl f b = f ((l.take k).foldl f b) u := by
  rw [take_snoc h]; simp

set_option maxHeartbeats 1000000 in
set_option maxRecDepth 100000 in
theorem nums_any (g : Nat) (S : List Nat) (st : Wire.St) (l : List Int) (A : Option Addr) (c C : Nat) (w : World) (h : WrAt g S st.1 st.2 w)
    (hr : Reads w C 1 A l.length (ints l)) (hsafe : ∀ ad, A = some ad → 0 < l.length → ad.block ∉ S ∧ ad.block < w.heap.size) (hN : st.2.length + 10 * l.length ≤ 1000000000)
    (hv : ∀ v ∈ l, -9223372036854775808 ≤ v ∧ v ≤ 9223372036854775807) :
    Calls Tryz.prog 157 #[.pointer (some ⟨g, 0, none⟩), .slice A l.length c] w fun r w' => r = .returned (.tuple #[]) ∧ ∃ S', WrAt g S' (l.foldl Wire.stNum st).1 (l.foldl Wire.stNum st).2 w' ∧ Mv S S' w w' := by
  generalize hn : l.length = n at *
  have Hn := Lib.hid hn; clear hn
  have Hv := Lib.hid hv; clear hv
  have HW := Lib.hid h; clear h
  have Hr := Lib.hid hr; clear hr
  have Hsafe := Lib.hid hsafe; clear hsafe
  go_enter Tryz.func157, Tryz.ntmps157
  go_wp2
  go_loopw [8] (fun i wr => ∃ (k : Nat) (s' : Wire.St) (S' : List Nat), k ≤ n ∧ i = .int .i64 k ∧ Hid (s' = (l.take k).foldl Wire.stNum st) ∧ Hid (WrAt g S' s'.1 s'.2 wr) ∧ Mv S S' w wr) (fun i _ => n - (intOf i).toNat)
  case atStart => exact ⟨0, st, S, Nat.zero_le _, rfl, rfl, HW.out, Mv.refl _ _⟩
  case round =>
    obtain ⟨k, s', S', hk, rfl, HS, HWr, hf⟩ := hrel
    have hsz := hf.size
    by_cases hlt : k < n
    · obtain ⟨ad, v, rfl, _, hvk, hc0⟩ := int_at Hr.out hlt
      have hc : wr.cell? (ad.add k) = some (.int .i64 v) := by
        rw [World.cell?_of_block (a := ad.add k) (w := w) (w' := wr) (by rw [block_of_add]; exact hf.block _ (Hsafe.out ad rfl (by omega)).2 (Hsafe.out ad rfl (by omega)).1)]; exact hc0
      have hv12 := Hv.out v (List.mem_of_getElem? hvk)
      have Hvk := Lib.hid hvk; clear hvk hc0
      have hlen : s'.2.length ≤ 1000000000 := by
        have h1 := Wire.stNum_len st (l.take k)
        rw [← HS.out, List.length_take] at h1
        omega
      have c0 : wr.cell? ⟨g, 0, none⟩ = some (.int .i64 s'.1) := HWr.out.cell0
      by_cases he : s'.1 = 0
      · have Hstep : Hid ((l.take (k + 1)).foldl Wire.stNum st = (0, Wire.wNum s'.2 v)) := by
          show _ = _
          rw [foldl_snoc _ _ Hvk.out, ← HS.out]; simp [Wire.stNum, he]
        rw [he] at c0
        have HW0 : Hid (WrAt g S' 0 s'.2 wr) := by rw [← he]; exact HWr
        have He := Lib.hid he; clear he
        go_wp2_with (first
          | (go_at_call 216; refine (wrong_any g 0 _ c0).mono ?_; rintro e w1 ⟨rfl, rfl⟩)
          | (go_at_call 217; refine (num_any g S' 0 s'.2 v hv12.1 hv12.2 _ HW0.out hlen).mono ?_; rintro e w1 ⟨rfl, S1, hw1, hf1⟩))
        have Hw1 := Lib.hid hw1; clear hw1
        go_roundw
        case rel => exact ⟨k + 1, _, _, by omega, by go_num, Hstep.out.symm, Hw1.out, hf.trans hf1⟩
        case measure => simp [intOf]; omega
      · have he' : (s'.1 != 0) = true := by simp [he]
        have Hfin : Hid (l.foldl Wire.stNum st = s') := by
          show _ = _
          conv => lhs; rw [← List.take_append_drop k l, List.foldl_append, ← HS.out, Wire.stNum_off he]
        have He := Lib.hid he; clear he
        go_wp2_with (go_at_call 216; refine (wrong_any g s'.1 _ c0).mono ?_; rintro e w1 ⟨rfl, rfl⟩)
        refine bodyPost_ret (results_none rfl _ _ _) rfl ?_
        exact ⟨rfl, _, by rw [Hfin.out]; exact HWr.out, hf⟩
    · go_wp2
      go_end0
      have h1 := HS.out
      rw [List.take_of_length_le (by have := Hn.out; omega)] at h1
      exact ⟨rfl, _, by rw [← h1]; exact HWr.out, hf⟩

end Go.Proofs.YtfmbadinfhpihaaGreat.Wi
namespace Go.Proofs.YtfmbadinfhpihaaGreat.Wi
open Go.RowKit

set_option maxHeartbeats 400000 in
theorem bytes_ok (g : Nat) (S : List Nat) (bs : List UInt8) (w : World) (h : WrAt g S 0 bs w) :
    Calls Tryz.prog 158 #[.pointer (some ⟨g, 0, none⟩)] w fun r w' => r = .returned (.tuple #[.string ⟨bs.toArray⟩, .int .i64 0]) ∧ w = w' := by
  have c0 := h.cell0
  obtain ⟨sv, _, hbk, hown, hne⟩ := h
  have e1 : w.cell? ⟨g, 1, none⟩ = some sv := by rw [Lib.cell_of_heap hbk]; rfl
  rw [Lib.byteCells_length] at hown
  obtain ⟨ao, n, cap, rfl, hn⟩ : ∃ ao n cap, sv = .slice ao n cap ∧ bs.length = n := by
    rcases hown.2 with ⟨hv, h0⟩ | ⟨g', cap, cur, hv, _⟩
    · exact ⟨none, 0, 0, hv, h0⟩
    · exact ⟨_, _, _, hv, rfl⟩
  rw [hn] at hown
  have hcv := run_bytes_string (P := Tryz.prog) (c := cap) w Tryz.underlying48 Tryz.underlying5 Tryz.underlying9 hn (Reads.of_own hown)
  clear hbk hown hne hn
  go_enter Tryz.func158, Tryz.ntmps158
  go_wp2_with (go_at_call 216; refine (wrong_any g 0 _ c0).mono ?_; rintro e w1 ⟨rfl, rfl⟩)
  go_ret2
  exact ⟨rfl, rfl⟩

theorem bytes_err (g : Nat) (e : Int) (he : e ≠ 0) (w : World) (c0 : w.cell? ⟨g, 0, none⟩ = some (.int .i64 e)) :
    Calls Tryz.prog 158 #[.pointer (some ⟨g, 0, none⟩)] w fun r w' => r = .returned (.tuple #[.string ⟨#[]⟩, .int .i64 e]) ∧ w = w' := by
  have he' : (e != 0) = true := by simp [he]
  clear he
  go_enter Tryz.func158, Tryz.ntmps158
  go_wp2_with (go_at_call 216; refine (wrong_any g e _ c0).mono ?_; rintro e w1 ⟨rfl, rfl⟩)
  go_ret2
  exact ⟨rfl, rfl⟩

/-- What Bytes tells. -/
def bytesOf (st : Wire.St) : List UInt8 := if st.1 = 0 then st.2 else []
theorem bytes_any (g : Nat) (S : List Nat) (st : Wire.St) (w : World) (h : WrAt g S st.1 st.2 w) :
    Calls Tryz.prog 158 #[.pointer (some ⟨g, 0, none⟩)] w fun r w' => r = .returned (.tuple #[.string ⟨(bytesOf st).toArray⟩, .int .i64 st.1]) ∧ w = w' := by
  unfold bytesOf
  by_cases he : st.1 = 0
  · rw [he] at h ⊢
    rw [if_pos rfl]
    exact bytes_ok g S st.2 w h
  · rw [if_neg he]
    exact bytes_err g st.1 he w h.cell0

theorem wfail_any (g : Nat) (S : List Nat) (st : Wire.St) (x : Int) (w : World) (h : WrAt g S st.1 st.2 w) :
    Calls Tryz.prog 231 #[.pointer (some ⟨g, 0, none⟩), .int .i64 x] w fun r w' => r = .returned (.tuple #[]) ∧ ∃ S', WrAt g S' (Wire.stFail st x).1 (Wire.stFail st x).2 w' ∧ Mv S S' w w' := by
  refine (fail_any g st.1 x w h.cell0 (h.frozen 0)).mono ?_
  rintro r w' ⟨rfl, rfl⟩
  unfold Wire.stFail
  by_cases he : st.1 = 0
  · rw [if_pos he, if_pos he]
    exact ⟨rfl, _, h.setErr x, (Mv.refl _ _).set_ h.own 0 _⟩
  · rw [if_neg he, if_neg he]
    exact ⟨rfl, _, h, Mv.refl _ _⟩
end Go.Proofs.YtfmbadinfhpihaaGreat.Wi
