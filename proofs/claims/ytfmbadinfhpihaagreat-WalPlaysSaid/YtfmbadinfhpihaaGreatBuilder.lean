/-
  strings.Builder (a builder that the call has made: WriteString, String) as contracts over this seat's translation; turned from the library's walks over any program.
  Conditions: what is held and what is written together takes at most 2^47 bytes.
-/
import Derived.Laws.BytesString
import Derived.Laws.BitsAllLaws
import Derived.Laws.BitsLemmas
import Derived.Laws.Cells
import Derived.Lib.UnsafeStr
import Derived.Test.YtfmbadinfhpihaaGreatWords2
import Derived.WalkKit
import Derived.Lib.Strings
import Derived.Lib.Slices
import Derived.Lib.Walk
import Derived.Lib.Builder
import Derived.Lib.AppendStr
import Derived.Lib.BufferWrite
import Derived.Lib.Hide
import Derived.Laws.MakeOwn
import Derived.Laws.Externs
import Derived.Laws.IdiomCopy
import Derived.KernelRfl
import Derived.Test.YtfmbadinfhpihaaGreatProg
import Derived.Deep.QuietTactic
import Derived.BigQuiet
set_option linter.unusedVariables false
set_option linter.unusedSimpArgs false
namespace Go.Proofs.YtfmbadinfhpihaaGreat
open Go.RowKit

theorem fold_push (l : List UInt8) : ∀ s : ByteArray, (l.map fun b => ((b.toNat : Nat) : Int)).foldl (fun r n => r.push (UInt8.ofNat n.toNat)) s = ⟨(s.data.toList ++ l).toArray⟩ := by
  induction l with
  | nil => intro s; simp
  | cons b l ih =>
    intro s
    simp only [List.map_cons, List.foldl_cons]
    rw [ih]
    simp [ByteArray.push]
theorem run_bytes_string {P : Program} (w : World) {src dst e : TypeId} (hs : P.underlying src = some (.slice e)) (he : P.underlying e = some (.int .u8)) (hd : P.underlying dst = some .string)
    {B c n : Nat} {A : Option Addr} {l : List UInt8} (hn : l.length = n) (h : Reads w B 1 A n (Lib.byteCells l)) :
    (convert src dst (.slice A n c)).run P w = .ok (.string ⟨l.toArray⟩) w := by
  rw [run_convert_bytes_string w src dst e A n c hs he hd]
  rcases A with _ | ad
  · have h0 : n = 0 := by
      rcases Nat.eq_zero_or_pos n with h0 | h0
      · exact h0
      · obtain ⟨ad, h, _⟩ := h.2 h0
        cases h
    subst h0
    have : l = [] := List.eq_nil_of_length_eq_zero hn
    subst this
    rfl
  · have hc : ∀ j v, (Lib.byteCells l)[j]? = some v → w.cell? (ad.add j) = some v := by
      intro j v hv
      have hj : j < n := by
        have := (List.getElem?_eq_some_iff.1 hv).1
        rw [Lib.byteCells_length] at this
        omega
      obtain ⟨ad', he', _, hcell⟩ := h.2 (by omega)
      injection he' with he'
      subst he'
      exact hcell j v hv
    have hl := run_loadCells_list (P := P) (w := w) ad (Lib.byteCells l) hc
    rw [Lib.byteCells_length, hn] at hl
    have hm : Lib.byteCells l = (l.map fun b => ((b.toNat : Nat) : Int)).map (Value.int .u8) := by simp [Lib.byteCells]
    rw [hm] at hl
    rw [run_bytesToString w ad n c _ hl, fold_push]
    rfl

theorem len_data (s : ByteArray) : s.data.toList.length = s.size := by simp
theorem byte_at (s : ByteArray) {k : Nat} (h : k < s.size) : s.data.toList[k]? = some s[k] := by
  rw [List.getElem?_eq_getElem (by rw [len_data]; exact h)]; rfl
theorem of_data {s t : ByteArray} (h : s.data.toList = t.data.toList) : s = t := ByteArray.ext (Array.ext' h)

/-! bits of an int (64 bits with a sign), both sides not below 0 -/
theorem ofInt_i64' (a : Nat) (ha : a < 9223372036854775808) : (BitVec.ofInt 64 (a : Int)).toNat = a := by
  rw [BitVec.ofInt_natCast, BitVec.toNat_ofNat]; exact Nat.mod_eq_of_lt (by omega)
theorem i64_and_nat (a b : Nat) (ha : a < 9223372036854775808) (hb : b < 9223372036854775808) : bits .and .i64 (a : Int) (b : Int) = ((a &&& b : Nat) : Int) := by
  have hx : a &&& b < 2 ^ 63 := Nat.and_lt_two_pow _ (by omega)
  show IntKind.i64.wrap ((BitVec.ofInt 64 (a : Int) &&& BitVec.ofInt 64 (b : Int)).toNat : Int) = _
  rw [BitVec.toNat_and, ofInt_i64' a ha, ofInt_i64' b hb, IntKind.wrap_i64]
  omega
theorem i64_or_nat (a b : Nat) (ha : a < 9223372036854775808) (hb : b < 9223372036854775808) : bits .or .i64 (a : Int) (b : Int) = ((a ||| b : Nat) : Int) := by
  have hx : a ||| b < 2 ^ 63 := Nat.or_lt_two_pow (by omega) (by omega)
  show IntKind.i64.wrap ((BitVec.ofInt 64 (a : Int) ||| BitVec.ofInt 64 (b : Int)).toNat : Int) = _
  rw [BitVec.toNat_or, ofInt_i64' a ha, ofInt_i64' b hb, IntKind.wrap_i64]
  omega
/-- Two parts that do not meet: '|' is '+'. -/
theorem i64_join (i : Nat) (a b : Nat) (ha : a < 9223372036854775808) (hi : a % 2 ^ i = 0) (hb : b < 2 ^ i) (hb' : b < 9223372036854775808) : bits .or .i64 (a : Int) (b : Int) = ((a + b : Nat) : Int) := by
  rw [i64_or_nat a b ha hb', nat_join i a b hi hb]
end Go.Proofs.YtfmbadinfhpihaaGreat
namespace Go.Proofs.YtfmbadinfhpihaaGreat
open Go.RowKit
namespace Bld
theorem info_byte : (Tryz.prog.info? 5).map (fun i => (i.zero, i.size, i.bytes)) = some (some (.int .u8 0), 1, 1) := by kernel_rfl
theorem cells_byte : Tryz.prog.cellsOf 5 = 1 := by kernel_rfl
end Bld

set_option maxRecDepth 10000 in
set_option maxHeartbeats 4000000 in
theorem clone_inner (s : ByteArray) (w : World) (hlim : s.size ≤ 281474976710656) :
    Calls Tryz.prog 144 #[.string s] w fun e w' => e = .returned (.string s) ∧ Below w.heap.size w w' := by
  by_cases h0 : s.size = 0
  · have hs : s = ⟨#[]⟩ := by
      apply ByteArray.ext
      exact Array.eq_empty_of_size_eq_zero h0
    subst hs
    go_enter Tryz.func144, Tryz.ntmps144
    go_wp2
    go_ret
    exact ⟨rfl, Below.refl _ _⟩
  · obtain ⟨i0, hi, hz0, hz1, hz2⟩ := info_parts Bld.info_byte
    have hinfo : (Tryz.prog.info? 5).map (·.size) = some 1 := by rw [hi]; simp [hz1]
    have hco : Tryz.prog.cellsOf 5 = 1 := Bld.cells_byte
    obtain ⟨M, hM⟩ : ∃ M, M = madeCells (Value.int .u8 0).cells (((s.size : Nat) : Int).toNat * i0.size) := ⟨_, rfl⟩
    have hMs : M.size = s.size := by rw [hM, size_madeCells, hz1]; simp
    have hmk : ∀ W : World, (Instr.makeSlice 48 (.int .i64 (s.size : Int)) (.int .i64 (s.size : Int))).run Tryz.prog W = .ok (.slice (some ⟨W.heap.size, 0, none⟩) s.size s.size) (W.alloc (.cells M 5)) := fun W => by
      have h := run_make (P := Tryz.prog) W 48 5 i0 (.int .u8 0) Tryz.underlying48 hi hz0 .i64 .i64 (s.size : Int) (s.size : Int) (by omega) (by omega) (by rw [hz2]; omega) (by omega)
      rw [← hM] at h
      simpa using h
    clear hM
    have hcp := Lib.run_copy_row_string (P := Tryz.prog) (w.alloc (.cells M 5)) 48 9 3 5 w.heap.size 0 s.size s.size s M 5 Tryz.underlying48 hinfo (heap_alloc_new w _) (Nat.le_refl _) (by omega)
    obtain ⟨Y, hY⟩ : ∃ Y, Y = (M.toList.take 0 ++ Lib.byteCells s.data.toList ++ M.toList.drop (0 + s.size)).toArray := ⟨_, rfl⟩
    rw [← hY] at hcp
    have hYl : Y.toList = Lib.byteCells s.data.toList := by
      rw [hY, List.toList_toArray, List.take_zero, List.nil_append, List.drop_of_length_le (by rw [Array.length_toList]; omega), List.append_nil]
    have hYs : Y.size = s.size := by rw [← Array.length_toList, hYl, Lib.byteCells_length, ← Lib.size_eq]
    have hgY : ((w.alloc (.cells M 5)).setRow w.heap.size Y).heap[w.heap.size]? = some (.cells Y 5 (0, 0)) := setRow_heap _ _ M _ 5 (0, 0) (heap_alloc_new w _)
    have hne : s.data.toList ≠ [] := fun e => h0 (by rw [Lib.size_eq, e]; rfl)
    have hUS := Lib.run_unsafeString_row (P := Tryz.prog) ((w.alloc (.cells M 5)).setRow w.heap.size Y) 259 3 9 5 Tryz.underlying259 hco w.heap.size Y.size (by unfold World.shape?; rw [hgY]) s.data.toList hne (by rw [← Lib.size_eq]; omega) (by rw [← Lib.size_eq]; omega)
      (fun j x hx => Lib.cells_of_row hgY Y.size j _ (by rw [List.take_of_length_le (by rw [Array.length_toList]; exact Nat.le_refl _), hYl]; simp [Lib.byteCells, hx]))
    rw [← Lib.size_eq] at hUS
    clear hY
    go_enter Tryz.func144, Tryz.ntmps144
    go_wp2
    go_ret
    have hb1 : Below w.heap.size w (w.alloc (.cells M 5)) := (Below.refl _ w).alloc (Nat.le_refl _) _
    have hb2 : Below w.heap.size (w.alloc (.cells M 5)) ((w.alloc (.cells M 5)).setRow w.heap.size Y) := ⟨rfl, rfl, rfl, by simp, fun k hk => setRow_other _ _ _ _ (by omega)⟩
    exact ⟨rfl, Lib.below_freeze (hb1.trans hb2) (p := ⟨w.heap.size, 0, none⟩) (Nat.le_refl _) _⟩

theorem clone_any (s : ByteArray) (w : World) (hlim : s.size ≤ 281474976710656) :
    Calls Tryz.prog 39 #[.string s] w fun e w' => e = .returned (.string s) ∧ Below w.heap.size w w' := by
  go_enter Tryz.func39, Tryz.ntmps39
  go_wp2_with (go_at_call 144; refine (clone_inner s _ hlim).mono ?_; rintro e w' ⟨rfl, hb⟩)
  go_ret
  exact ⟨rfl, hb⟩
end Go.Proofs.YtfmbadinfhpihaaGreat
namespace Go.Proofs.YtfmbadinfhpihaaGreat
open Go.RowKit

structure Mv (S S' : List Nat) (w w' : World) : Prop where
  os : w'.os = w.os
  tape : w'.tape = w.tape
  output : w'.output = w.output
  size : w.heap.size ≤ w'.heap.size
  block : ∀ k, k < w.heap.size → k ∉ S → w'.heap[k]? = w.heap[k]?
  link : ∀ k, k ∈ S' → k ∈ S ∨ w.heap.size ≤ k
section
variable {B : Nat} {S S' S'' T : List Nat} {w w' w'' : World}
theorem Mv.refl (S : List Nat) (w : World) : Mv S S w w := ⟨rfl, rfl, rfl, Nat.le_refl _, fun _ _ _ => rfl, fun _ h => .inl h⟩
theorem Mv.trans (h : Mv S S' w w') (h' : Mv S' S'' w' w'') : Mv S S'' w w'' := by
  have hs := h.size
  have hs' := h'.size
  refine ⟨h'.os.trans h.os, h'.tape.trans h.tape, h'.output.trans h.output, by omega, fun k hk hn => ?_, fun k hk => ?_⟩
  · rw [h'.block k (by omega) (fun hk' => (h.link k hk').elim hn (by omega)), h.block k hk hn]
  · rcases h'.link k hk with h1 | h1
    · exact h.link k h1
    · exact .inr (by omega)
theorem Mv.alloc (h : Mv S S' w w') (o : Obj) : Mv S S' w (w'.alloc o) :=
  ⟨h.os, h.tape, h.output, by have := h.size; simp; omega, fun k hk hn => (Below.heap_alloc _ _ _ (Nat.lt_of_lt_of_le hk h.size)).trans (h.block k hk hn), h.link⟩
theorem Mv.drewN (h : Mv S S' w w') (n : Nat) : Mv S S' w (w'.drewN n) := ⟨h.os, h.tape, h.output, h.size, h.block, h.link⟩
theorem Mv.set_ (h : Mv S S' w w') {g : Nat} (hg : g ∈ S') (i : Nat) (u : Value) : Mv S S' w (w'.setCell ⟨g, i, none⟩ u) := by
  have hb : Below g w' (w'.setCell ⟨g, i, none⟩ u) := (Below.refl _ _).setCell (p := ⟨g, i, none⟩) (Nat.le_refl _) u
  refine ⟨hb.os.trans h.os, hb.tape.trans h.tape, hb.output.trans h.output, Nat.le_trans h.size hb.size, fun k hk hn => ?_, h.link⟩
  rw [Below.heap_setCell _ _ _ _ (show k ≠ g from fun e => by subst e; exact (h.link _ hg).elim hn (by omega))]
  exact h.block k hk hn
theorem Mv.grown (h : Mv S S' w w') {row : Option Nat} (hg : w'.grownBy w'' row) (hrow : ∀ k, row = some k → k ∈ S') (hl : ∀ k, k ∈ S'' → k ∈ S' ∨ w'.heap.size ≤ k) : Mv S S'' w w'' := by
  have hs := h.size
  refine ⟨hg.os.trans h.os, hg.tape.trans h.tape, hg.output.trans h.output, Nat.le_trans hs hg.size, fun k hk hn => ?_, fun k hk => ?_⟩
  · rw [hg.block k (by omega) (fun e => (h.link k (hrow k e.symm)).elim hn (by omega))]
    exact h.block k hk hn
  · rcases hl k hk with h1 | h1
    · exact h.link k h1
    · exact .inr (by omega)
theorem Mv.mono (h : Mv S S' w w') (hST : ∀ k, k ∈ S → k ∈ T) : Mv T S' w w' := ⟨h.os, h.tape, h.output, h.size, fun k hk hn => h.block k hk (fun e => hn (hST k e)), fun k hk => (h.link k hk).imp (hST k) id⟩
theorem Mv.less (h : Mv S S' w w') (hST : ∀ k, k ∈ T → k ∈ S' ∨ w.heap.size ≤ k) : Mv S T w w' := ⟨h.os, h.tape, h.output, h.size, h.block, fun k hk => (hST k hk).elim (h.link k) .inr⟩
theorem Mv.of_new (h : Below w.heap.size w w') (hS : ∀ k, k ∈ S' → k ∈ S ∨ w.heap.size ≤ k) : Mv S S' w w' := ⟨h.os, h.tape, h.output, h.size, fun k hk _ => h.block k hk, hS⟩
theorem Mv.below (h : Mv S S' w w') (hS : ∀ k, k ∈ S → B ≤ k) (hB : B ≤ w.heap.size) : Below B w w' := ⟨h.os, h.tape, h.output, h.size, fun k hk => h.block k (by omega) (fun e => by have := hS k e; omega)⟩
theorem Mv.low (h : Mv S S' w w') (hS : ∀ k, k ∈ S → B ≤ k) (hB : B ≤ w.heap.size) : ∀ k, k ∈ S' → B ≤ k := fun k hk => (h.link k hk).elim (hS k) (by omega)
/-- The footprint of something else: apart from S, and there. -/
def Apart (S T : List Nat) (w : World) : Prop := ∀ k, k ∈ T → k ∉ S ∧ k < w.heap.size
theorem Apart.keep (h : Apart S T w) (hm : Mv S S' w w') : (∀ k, k ∈ T → w'.heap[k]? = w.heap[k]?) ∧ Apart S' T w' := by
  have hs := hm.size
  exact ⟨fun k hk => hm.block k (h k hk).2 (h k hk).1, fun k hk => ⟨fun e => (hm.link k e).elim (h k hk).1 (by have := (h k hk).2; omega), by have := (h k hk).2; omega⟩⟩
theorem Mv.block' (h : Mv S S' w w') (hT : Apart S T w) {k : Nat} (hk : k ∈ T) : w'.heap[k]? = w.heap[k]? := h.block k (hT k hk).2 (hT k hk).1
theorem Apart.swap (h : Apart S T w) (hS : ∀ k, k ∈ S → k < w.heap.size) : Apart T S w := fun k hk => ⟨fun e => (h k e).1 hk, hS k hk⟩
end
theorem drewN_below {B : Nat} {a w : World} (h : Below B a w) (n : Nat) : Below B a (w.drewN n) := ⟨h.os, h.tape, h.output, h.size, h.block⟩
/-- A row that a writer does not write. -/
theorem Reads.apart {S S' : List Nat} {w w' : World} {size n : Nat} {A : Option Addr} {xs : List Value} {C : Nat} (h : Reads w C size A n xs) (hs : ∀ ad, A = some ad → ad.block ∉ S ∧ ad.block < w.heap.size) (hf : Mv S S' w w') (hC : C ≤ w'.heap.size) : Reads w' w'.heap.size size A n xs :=
  ⟨h.1, fun hn => by
    obtain ⟨ad, e, hb, hc⟩ := h.2 hn
    refine ⟨ad, e, by omega, fun j u hu => ?_⟩
    rw [World.cell?_of_block (a := ad.add j) (w := w) (w' := w') (by rw [block_of_add]; exact hf.block _ (hs ad e).2 (hs ad e).1)]
    exact hc j u hu⟩
/-- Values in a new block. -/
theorem reads_newV (w : World) (xs : List Value) (t : TypeId) (cs : Array Value) (hcs : cs.toList = xs) {n b B : Nat} (hn : xs.length = n) (hb : b = w.heap.size) (hB : w.heap.size < B) : Reads (w.alloc (.cells cs t)) B 1 (some ⟨b, 0, none⟩) n xs := by
  subst hb hn
  refine ⟨by omega, fun _ => ⟨_, rfl, hB, fun j u hu => ?_⟩⟩
  have h : (w.alloc (.cells cs t)).heap[w.heap.size]? = some (.cells cs t (0, 0)) := heap_alloc_new w _
  have e : ((⟨w.heap.size, 0, none⟩ : Addr).add j) = ⟨w.heap.size, j, none⟩ := by
    unfold Addr.add; split
    · rename_i h; subst h; rfl
    · simp
  rw [e]
  simp only [World.cell?, h]
  rw [← hcs] at hu
  simpa using hu

section
variable {P : Program} {w : World}
theorem run_append_string_link (base : Nat) (t u ty e : TypeId) (i : TypeInfo) (ht : P.underlying t = some (.slice e)) (hu : P.underlying u = some .string) (hi : P.info? e = some i) (hz : i.zero = some (.int .u8 0))
    (hsize : i.size = 1) (hby : i.bytes = 1)
    (v : Value) (n : Nat) (xs : List Value) (hown : w.ownsRow base e 1 v n xs) (s : ByteArray)
    (h63 : n + s.size ≤ maxLen) (hbytes : n + s.size ≤ 140737488355328) (hbase : base ≤ w.heap.size) :
    ∃ v' w', (Builtin.append_ #[t, u] ty #[v, .string s]).run P w = .ok v' w' ∧ w'.ownsRow base e 1 v' (n + s.size) (xs ++ Lib.strCells s) ∧ w.grownBy w' v.ownBlock ∧
      (v'.ownBlock = v.ownBlock ∨ ∃ k, v'.ownBlock = some k ∧ w.heap.size ≤ k) := by
  obtain ⟨v', w', hr, h1, h2, h3⟩ := Lib.run_append_own_string (P := P) w base t u ty e i ht hu hi hz hsize hby v n xs hown s h63 hbytes hbase
  refine ⟨v', w', hr, h1, h2, ?_⟩
  rcases hown.2 with ⟨rfl, rfl⟩ | ⟨g, cap, cur, rfl, hbg, hg, hnc, hcm, hcs, htake⟩
  · have hx : xs = [] := List.eq_nil_of_length_eq_zero (by simpa using hown.1)
    subst hx
    obtain ⟨v2, w2, hr2, k1, k2, _⟩ := Lib.run_append_own_string (P := P) w w.heap.size t u ty e i ht hu hi hz hsize hby (.slice none 0 0) 0 [] (World.ownsRow_nil w _ e 1) s h63 hbytes (Nat.le_refl _)
    rw [hr] at hr2
    injection hr2 with e1 e2
    subst e1 e2
    rcases k1.2 with ⟨hv, _⟩ | ⟨g', cap, cur, hv, hb, _⟩
    · left; rw [hv]
    · right; exact ⟨g', by rw [hv]; rfl, hb⟩
  · have hxl : xs.length = n := by simpa using hown.1
    have hsmall : n + s.size ≤ 9223372036854775807 := by simp only [maxLen] at h63; omega
    by_cases hroom : n + s.size ≤ cap
    · have hr2 := Lib.run_append_room_string (P := P) w t u ty e i ht hu hi hsize g n cap cur hg s hroom (by simp at hcs; omega)
      rw [hr] at hr2
      injection hr2 with e1 e2
      left; rw [e1]; rfl
    · have hr2 := Lib.run_append_grow_string (P := P) w t u ty e i (.int .u8 0) ht hu hi hz ⟨g, 0, none⟩ n cap xs (by rw [hsize]; simpa using hxl) (hown.cells (g := g) rfl) s (by omega) (by omega) (by rw [hby]; exact growslice_fits (by omega) (by omega))
      rw [hr] at hr2
      injection hr2 with e1 e2
      right; exact ⟨w.heap.size, by rw [e1]; rfl, Nat.le_refl _⟩
theorem wpList_append_string_link {ops : Array Oper} {rest : List Oper} {o : Oper} {a : Act} {Q : Exit → Act → World → Prop} (hgd : o.guard = none) (sl x : Operand) (t u : TypeId)
    (ho : o.op = .call { callee := .builtin .append, args := #[sl, x], argTypes := #[t, u] })
    (base : Nat) (e : TypeId) (i : TypeInfo) (ht : P.underlying t = some (.slice e)) (hu : P.underlying u = some .string) (hi : P.info? e = some i) (hz : i.zero = some (.int .u8 0))
    (hsize : i.size = 1) (hby : i.bytes = 1)
    (v : Value) (n : Nat) (xs : List Value) (hs : a.eval sl = v) (hown : w.ownsRow base e 1 v n xs) (s : ByteArray) (hx : a.eval x = .string s)
    (h63 : n + s.size ≤ maxLen) (hbytes : n + s.size ≤ 140737488355328) (hbase : base ≤ w.heap.size)
    (h : ∀ v' w', w'.ownsRow base e 1 v' (n + s.size) (xs ++ Lib.strCells s) → w.grownBy w' v.ownBlock → (v'.ownBlock = v.ownBlock ∨ ∃ k, v'.ownBlock = some k ∧ w.heap.size ≤ k) → wpList P ops Q rest (a.put o.dst v') w') : wpList P ops Q (o :: rest) a w := by
  refine wpList_plain hgd fun K hK => ?_
  obtain ⟨v', w', hr, h2, h3, h4⟩ := run_append_string_link (P := P) base t u o.type e i ht hu hi hz hsize hby v n xs hown s h63 hbytes hbase
  unfold Oper.wp execOp
  simp only [ho, resolve, invoke, builtin, Sem.run_bind, Sem.run_pure, Result.andThen_ok, List.map_toArray, List.map_cons, List.map_nil, hs, hx, hr]
  exact hK _ _ (h v' w' h2 h3 h4)
end
end Go.Proofs.YtfmbadinfhpihaaGreat
namespace Go.Proofs.YtfmbadinfhpihaaGreat
open Go.RowKit

/-! ### Room -/
def room (left : Int) : List Int → Int
  | [] => left
  | z :: r => if left < 0 ∨ left < z then -1 else room (left - z) r

theorem room_cons_no {left z : Int} {r : List Int} (h : left < 0 ∨ left < z) : room left (z :: r) = -1 := by simp [room, h]
theorem room_cons_yes {left z : Int} {r : List Int} (h0 : ¬ left < 0) (h : ¬ left < z) : room left (z :: r) = room (left - z) r := by simp [room, h0, h]

set_option maxHeartbeats 400000 in
theorem room_any (left : Int) (zs : List Int) (A : Option Addr) (c B : Nat) (w : World) (hr : Reads w B 1 A zs.length (ints zs)) (hl : zs.length ≤ 9223372036854775807)
    (h0 : -1 ≤ left) (h1 : left ≤ 9223372036854775807) (hz : ∀ z ∈ zs, 0 ≤ z) :
    Calls Tryz.prog 51 #[.int .i64 left, .slice A zs.length c] w fun e w' => e = .returned (.int .i64 (room left zs)) ∧ w = w' := by
  generalize hn : zs.length = n at *
  have Hn := Lib.hid hn; clear hn
  have Hz := Lib.hid hz; clear hz
  generalize hroom : room left zs = rm
  have Hr := Lib.hid hroom; clear hroom
  go_enter Tryz.func51, Tryz.ntmps51
  go_wp2
  go_loop [0, 5] (fun l i => ∃ (k : Nat) (x : Int), k ≤ n ∧ i = .int .i64 k ∧ l = .int .i64 x ∧ -1 ≤ x ∧ x ≤ 9223372036854775807 ∧ Hid (room x (zs.drop k) = rm)) (fun _ i => n - (intOf i).toNat)
  case atStart => exact ⟨0, left, Nat.zero_le _, rfl, rfl, h0, h1, by simpa [Hid] using Hr.out⟩
  case round =>
    obtain ⟨k, x, hk, rfl, rfl, hx0, hx1, HR⟩ := hrel
    by_cases hlt : k < n
    · obtain ⟨ad, z, rfl, hb, hzk, hc⟩ := int_at hr hlt
      have hdrop : zs.drop k = z :: zs.drop (k + 1) := by
        obtain ⟨h', e⟩ := List.getElem?_eq_some_iff.1 hzk
        rw [← e, List.getElem_cons_drop]
      have hz0 : 0 ≤ z := Hz.out z (List.mem_of_getElem? hzk)
      have HD := Lib.hid hdrop; clear hdrop hzk
      by_cases hneg : x < 0
      · go_wp2
        go_ret
        exact ⟨ret_int (by rw [← HR.out, HD.out, room_cons_no (.inl hneg)]), rfl⟩
      · by_cases hgt : x < z
        · go_wp2
          go_ret
          exact ⟨ret_int (by rw [← HR.out, HD.out, room_cons_no (.inr hgt)]), rfl⟩
        · go_wp2
          go_round
          case rel => exact ⟨k + 1, x - z, by omega, by go_num, rfl, by omega, by omega, by have := HR.out; rw [HD.out, room_cons_yes hneg hgt] at this; exact this⟩
          case measure => simp [intOf]; omega
    · go_wp2
      go_ret
      exact ⟨ret_int (by rw [← HR.out, List.drop_of_length_le (by have := Hn.out; omega)]; rfl), rfl⟩
end Go.Proofs.YtfmbadinfhpihaaGreat
namespace Go.Proofs.YtfmbadinfhpihaaGreat
open Go.RowKit

set_option maxHeartbeats 400000 in
theorem same_any (ss tt : List ByteArray) (A A' : Option Addr) (c c' B : Nat) (w : World) (hr : Reads w B 1 A ss.length (strs ss)) (hr' : Reads w B 1 A' tt.length (strs tt))
    (hl : ss.length ≤ 9223372036854775807) (hl' : tt.length ≤ 9223372036854775807) :
    Calls Tryz.prog 18 #[.slice A ss.length c, .slice A' tt.length c'] w fun e w' => e = .returned (.bool (sameB ss tt)) ∧ ∃ q, w' = w.drewN q := by
  generalize hn : ss.length = n at *
  generalize hm : tt.length = m at *
  have Hn := Lib.hid hn; clear hn
  have Hm := Lib.hid hm; clear hm
  by_cases hne : n = m
  · subst hne
    go_enter Tryz.func18, Tryz.ntmps18
    go_wp2
    go_loopw [5] (fun i wr => ∃ (k q : Nat), k ≤ n ∧ i = .int .i64 k ∧ Hid (ss.take k = tt.take k) ∧ wr = w.drewN q) (fun i _ => n - (intOf i).toNat)
    case atStart => exact ⟨0, 0, Nat.zero_le _, rfl, by simp [Hid], rfl⟩
    case round =>
      obtain ⟨k, q, hk, rfl, HT, rfl⟩ := hrel
      by_cases hlt : k < n
      · obtain ⟨ad, s, rfl, _, hsk, hc⟩ := str_at hr hlt
        obtain ⟨ad', t, rfl, _, htk, hc'⟩ := str_at hr' hlt
        have Hs := Lib.hid hsk; clear hsk
        have Ht := Lib.hid htk; clear htk
        cases hst : (s.toList == t.toList)
        · go_wp2
          go_quiet (fail)
          go_wp2
          go_ret
          refine ⟨ret_bool ?_, _, World.drewN_drewN _ _ _⟩
          symm
          simp only [sameB, decide_eq_false_iff_not]
          rintro rfl
          have e := Hs.out.symm.trans Ht.out
          injection e with e
          subst e
          simp at hst
        · go_wp2
          go_quiet (fail)
          go_wp2
          go_roundw
          case rel =>
            refine ⟨k + 1, _, by omega, by go_num, ?_, rfl⟩
            show _ = _
            rw [take_snoc Hs.out, take_snoc Ht.out, HT.out, bytes_eq_iff.1 hst]
          case measure => simp [intOf]; omega
      · go_wp2
        go_ret
        refine ⟨ret_bool ?_, _, rfl⟩
        symm
        have h1 := HT.out
        rw [List.take_of_length_le (by have := Hn.out; omega), List.take_of_length_le (by have := Hm.out; omega)] at h1
        exact sameB_iff.2 h1
  · go_enter Tryz.func18, Tryz.ntmps18
    go_wp2
    go_ret
    refine ⟨ret_bool ?_, 0, rfl⟩
    symm
    simp only [sameB, decide_eq_false_iff_not]
    rintro rfl
    exact hne (Hn.out.symm.trans Hm.out)
end Go.Proofs.YtfmbadinfhpihaaGreat
namespace Go.Proofs.YtfmbadinfhpihaaGreat
open Go.RowKit
namespace Bld
abbrev T : TypeId := 263
abbrev E : TypeId := 5
theorem size_builder : (Tryz.prog.info? 263).map (·.size) = some 2 := by kernel_rfl
theorem lies_builder : liesAt Tryz.prog Tryz.prog.depth 263 (2 / Tryz.prog.cellsOf 263) 0 263 1 = true := by kernel_rfl

set_option maxHeartbeats 1000000 in
theorem copyCheck_used (b : Nat) (w : World) (h0 : w.cell? ⟨b, 0, none⟩ = some (.pointer (some ⟨b, 0, none⟩))) :
    Calls Tryz.prog 228 #[.pointer (some ⟨b, 0, none⟩)] w fun e w' => e = .returned (.tuple #[]) ∧ w' = w := by
  obtain ⟨j, hj, _⟩ := Option.map_eq_some_iff.1 size_builder
  have hne := Lib.run_neq_ptr_same (P := Tryz.prog) w ⟨b, 0, none⟩ Tryz.underlying261 hj
  go_enter Tryz.func228, Tryz.ntmps228
  go_wp2
  go_end0
  exact ⟨rfl, rfl⟩

set_option maxHeartbeats 1000000 in
theorem copyCheck_fresh (b : Nat) (w : World) (h0 : w.cell? ⟨b, 0, none⟩ = some (.pointer none)) (hsh : w.shape? b = some (263, 2)) (hfz : w.frozen? ⟨b, 0, none⟩ = false) :
    Calls Tryz.prog 228 #[.pointer (some ⟨b, 0, none⟩)] w fun e w' => e = .returned (.tuple #[]) ∧ w' = w.setCell ⟨b, 0, none⟩ (.pointer (some ⟨b, 0, none⟩)) := by
  obtain ⟨j, hj, hjs⟩ := Option.map_eq_some_iff.1 size_builder
  have hu := Lib.run_to_unsafe (P := Tryz.prog) w ⟨b, 0, none⟩ Tryz.underlying261 Tryz.underlying302 hj (by rw [hjs]; decide) hsh (Nat.zero_lt_succ 1)
  have hf := Lib.run_from_unsafe (P := Tryz.prog) w ⟨b, 0, none⟩ Tryz.underlying302 Tryz.underlying261 hj hsh lies_builder
  have hx : ∀ x, (callFunc 248 #[x]).run Tryz.prog w = .ok (.value x) w := fun x => by
    rw [run_callFunc_extern Tryz.func248 (by kernel_rfl) (by kernel_rfl) (by kernel_rfl) (e := Extern.AbiNoEscape.same) (by kernel_rfl)]
    rw [Lib.run_noEscape]
    rfl
  clear hj hjs
  go_enter Tryz.func228, Tryz.ntmps228
  go_wp2
  go_end0
  exact ⟨rfl, rfl⟩

theorem copyCheck_any (B b : Nat) (bs : List Value) (w : World) (h : Lib.IsBuilder 263 5 B b bs w) :
    Calls Tryz.prog 228 #[.pointer (some ⟨b, 0, none⟩)] w fun e w' => e = .returned (.tuple #[]) ∧ (Lib.BuilderAt 263 5 B b (.pointer (some ⟨b, 0, none⟩)) bs w' ∧ Below B w w') := by
  rcases h with h | h
  · refine (copyCheck_fresh b w h.cell0 h.shape h.frozen0).mono ?_
    rintro e w' ⟨rfl, rfl⟩
    exact ⟨rfl, h.used _, (Below.refl B w).setCell (p := ⟨b, 0, none⟩) h.1 _⟩
  · refine (copyCheck_used b w h.cell0).mono ?_
    rintro e w' ⟨rfl, rfl⟩
    exact ⟨rfl, h, Below.refl B _⟩

set_option maxHeartbeats 2000000 in
theorem write_any (B b : Nat) (bs : List Value) (s : ByteArray) (w : World) (h : Lib.IsBuilder 263 5 B b bs w) (hlen : bs.length + s.size ≤ 140737488355328) (hBw : B ≤ w.heap.size) :
    Calls Tryz.prog 206 #[.pointer (some ⟨b, 0, none⟩), .string s] w fun e w' => e = .returned (.tuple #[.int .i64 s.size, .nilIface]) ∧ (Lib.IsBuilder 263 5 B b (bs ++ Lib.strCells s) w' ∧ Below B w w') := by
  obtain ⟨i0, hi, hz0, hz1, hz2⟩ := info_parts info_byte
  go_enter Tryz.func206, Tryz.ntmps206
  go_wp2_with (go_at_call 228; refine (copyCheck_any B b bs _ h).mono ?_)
  rintro e w1 ⟨rfl, h1, hb1⟩
  obtain ⟨hB, v, hbk, hown, hne⟩ := h1
  have c0 : w1.cell? ⟨b, 0, none⟩ = some (.pointer (some ⟨b, 0, none⟩)) := by rw [Lib.cell_of_heap hbk]; rfl
  have c1 : w1.cell? ⟨b, 1, none⟩ = some v := by rw [Lib.cell_of_heap hbk]; rfl
  go_wp2_with (at_builtin; refine Lib.wpList_append_own_string _ rfl _ _ 48 9 rfl B 5 i0 Tryz.underlying48 Tryz.underlying9 hi hz0 hz1 hz2 _ _ _ rfl hown s rfl ?c3 ?c4 ?c5 ?_)
  case c3 => unfold maxLen; omega
  case c4 => omega
  case c5 => have := hb1.size; omega
  intro v' w2 hown' hgrow _
  have hlt : b < w1.heap.size := by
    rcases Nat.lt_or_ge b w1.heap.size with h' | h'
    · exact h'
    · simp [Array.getElem?_eq_none h'] at hbk
  have hb2 : w2.heap[b]? = some (.cells #[.pointer (some ⟨b, 0, none⟩), v] 263 (0, 0)) := by
    rw [hgrow.block b hlt (fun e => hne e.symm)]
    exact hbk
  have d0 : w2.cell? ⟨b, 0, none⟩ = some (.pointer (some ⟨b, 0, none⟩)) := by rw [Lib.cell_of_heap hb2]; rfl
  have d1 : w2.cell? ⟨b, 1, none⟩ = some v := by rw [Lib.cell_of_heap hb2]; rfl
  have f1 : w2.frozen? ⟨b, 1, none⟩ = false := Lib.frozen_of_heap hb2 1
  obtain ⟨ao, n', cap, rfl⟩ : ∃ ao n' cap, v' = .slice ao n' cap := by
    rcases hown'.2 with ⟨hv, _⟩ | ⟨g, cap, cur, hv, _⟩
    · exact ⟨_, _, _, hv⟩
    · exact ⟨_, _, _, hv⟩
  go_wp2
  go_ret2
  refine ⟨rfl, .inr ?_, ?_⟩
  · exact Lib.BuilderAt.put (T := 263) (e := 5) hB hb2 (bs' := bs ++ Lib.strCells s) (by simpa [Lib.strCells_length] using hown') (by decide)
  · exact (hb1.grown hgrow (by have := hb1.size; omega) (fun k hk => (hown.lt k hk).1)).setCell (p := ⟨b, 1, none⟩) hB _

set_option maxHeartbeats 1000000 in
theorem string_some (B b : Nat) (l : List UInt8) (w : World) (h : Lib.IsBuilder 263 5 B b (Lib.byteCells l) w) (h0 : l ≠ []) :
    Calls Tryz.prog 208 #[.pointer (some ⟨b, 0, none⟩)] w fun e w' => e = .returned (.string ⟨l.toArray⟩) ∧ Below B w w' := by
  obtain ⟨p, hB, v, hbk, hown, hne⟩ : ∃ p, Lib.BuilderAt 263 5 B b p (Lib.byteCells l) w := by
    rcases h with h | h
    · exact ⟨_, h⟩
    · exact ⟨_, h⟩
  have hl0 : l.length ≠ 0 := by simpa using h0
  rw [Lib.byteCells_length] at hown
  obtain ⟨g, cap, cur, rfl, hbg, hg, hnc, hcm, hcs, htake⟩ : ∃ g cap cur, v = .slice (some ⟨g, 0, none⟩) l.length cap ∧ B ≤ g ∧ w.heap[g]? = some (.cells cur 5 (0, 0)) ∧ l.length ≤ cap ∧ cap ≤ maxLen ∧ cur.size = cap * 1 ∧ cur.toList.take (l.length * 1) = Lib.byteCells l := by
    rcases hown.2 with ⟨_, hz⟩ | ⟨g, cap, cur, hv, r⟩
    · exact absurd hz hl0
    · exact ⟨g, cap, cur, hv, r⟩
  have c1 : w.drew.cell? ⟨b, 1, none⟩ = some (.slice (some ⟨g, 0, none⟩) l.length cap) := by
    have : w.drew.heap[b]? = some (.cells #[p, .slice (some ⟨g, 0, none⟩) l.length cap] 263 (0, 0)) := hbk
    rw [Lib.cell_of_heap this]; rfl
  have hSD : (Builtin.unsafeSliceData_ #[48] 259 #[.slice (some ⟨g, 0, none⟩) l.length cap]).run Tryz.prog w.drew = .ok (.pointer (some ⟨g, 0, none⟩)) w.drew :=
    Lib.run_unsafeSliceData_row _ _ _ _ _ _ (by omega)
  have hUS : (Builtin.unsafeString_ #[259, 3] 9 #[.pointer (some ⟨g, 0, none⟩), .int .i64 l.length]).run Tryz.prog w.drew = .ok (.string ⟨l.toArray⟩) (w.drew.freeze ⟨g, 0, none⟩ l.length) := by
    refine Lib.run_unsafeString_row w.drew 259 3 9 5 Tryz.underlying259 cells_byte g cur.size (by have hg' : w.drew.heap[g]? = some (.cells cur 5 (0, 0)) := hg; simp [World.shape?, hg']) l h0 (by omega) (by unfold maxLen at hcm; omega) ?_
    intro j x hx
    have := hown.cells (g := g) rfl j (.int .u8 x.toNat) (by simp [Lib.byteCells, hx])
    exact this
  go_enter Tryz.func208, Tryz.ntmps208
  go_wp2
  go_region
  all_goals (go_wp2; go_ret; exact ⟨rfl, Lib.below_freeze (Below.drew (Below.refl B w)) (p := ⟨g, 0, none⟩) hbg _⟩)

theorem uns_none (W : World) (q : Option Addr) : (Builtin.unsafeString_ #[259, 3] 9 #[.pointer q, .int .i64 0]).run Tryz.prog W = .ok (.string .empty) W :=
  Lib.run_unsafeString_none W _ _ _ q

set_option maxHeartbeats 2000000 in
theorem string_nil (B b : Nat) (p : Value) (w : World) (hbk : w.heap[b]? = some (.cells #[p, .slice none 0 0] 263 (0, 0))) :
    Calls Tryz.prog 208 #[.pointer (some ⟨b, 0, none⟩)] w fun e w' => e = .returned (.string ⟨#[]⟩) ∧ Below B w w' := by
  have hUS := uns_none
  have c1 : w.drew.cell? ⟨b, 1, none⟩ = some (.slice none 0 0) := by
    have : w.drew.heap[b]? = some (.cells #[p, .slice none 0 0] 263 (0, 0)) := hbk
    rw [Lib.cell_of_heap this]; rfl
  have hSD : (Builtin.unsafeSliceData_ #[48] 259 #[.slice none 0 0]).run Tryz.prog w.drew = .ok (.pointer none) w.drew := rfl
  go_enter Tryz.func208, Tryz.ntmps208
  go_wp2
  go_region
  all_goals (go_wp2; go_ret; exact ⟨rfl, Below.drew (Below.refl B w)⟩)

set_option maxHeartbeats 2000000 in
theorem string_noroom (B b g : Nat) (p : Value) (cur : Array Value) (w : World) (hBw : B ≤ w.heap.size) (hbk : w.heap[b]? = some (.cells #[p, .slice (some ⟨g, 0, none⟩) 0 0] 263 (0, 0))) (hg : w.heap[g]? = some (.cells cur 5 (0, 0))) :
    Calls Tryz.prog 208 #[.pointer (some ⟨b, 0, none⟩)] w fun e w' => e = .returned (.string ⟨#[]⟩) ∧ Below B w w' := by
  have hUS := uns_none
  have hlt : b < w.heap.size := by
    rcases Nat.lt_or_ge b w.heap.size with h' | h'
    · exact h'
    · simp [Array.getElem?_eq_none h'] at hbk
  have c1 : w.drew.cell? ⟨b, 1, none⟩ = some (.slice (some ⟨g, 0, none⟩) 0 0) := by
    have : w.drew.heap[b]? = some (.cells #[p, .slice (some ⟨g, 0, none⟩) 0 0] 263 (0, 0)) := hbk
    rw [Lib.cell_of_heap this]; rfl
  have hSD : (Builtin.unsafeSliceData_ #[48] 259 #[.slice (some ⟨g, 0, none⟩) 0 0]).run Tryz.prog w.drew = .ok (.pointer (some ⟨w.drew.heap.size, 0, none⟩)) (w.drew.alloc (.view ⟨g, 0, none⟩ 5)) :=
    Lib.run_unsafeSliceData_zero w.drew _ _ 5 Tryz.underlying259 ⟨g, 0, none⟩ 0 (5, cur.size) (by have hg' : w.drew.heap[g]? = some (.cells cur 5 (0, 0)) := hg; simp [World.shape?, hg'])
  have c2 : (w.drew.alloc (.view ⟨g, 0, none⟩ 5)).cell? ⟨b, 1, none⟩ = some (.slice (some ⟨g, 0, none⟩) 0 0) := by
    have : (w.drew.alloc (.view ⟨g, 0, none⟩ 5)).heap[b]? = _ := (Lib.alloc_old w.drew _ b hlt).trans hbk
    rw [Lib.cell_of_heap this]; rfl
  have c3 : (w.alloc (.view ⟨g, 0, none⟩ 5)).drew.cell? ⟨b, 1, none⟩ = some (.slice (some ⟨g, 0, none⟩) 0 0) := c2
  have c0 : w.cell? ⟨b, 1, none⟩ = some (.slice (some ⟨g, 0, none⟩) 0 0) := c1
  go_enter Tryz.func208, Tryz.ntmps208
  go_wp2
  go_region
  all_goals (go_wp2; go_ret; exact ⟨rfl, (Below.drew (Below.refl B w)).alloc hBw _⟩)

set_option maxHeartbeats 2000000 in
theorem string_room (B b g cap : Nat) (p : Value) (w : World) (hc0 : cap ≠ 0) (hbk : w.heap[b]? = some (.cells #[p, .slice (some ⟨g, 0, none⟩) 0 cap] 263 (0, 0))) :
    Calls Tryz.prog 208 #[.pointer (some ⟨b, 0, none⟩)] w fun e w' => e = .returned (.string ⟨#[]⟩) ∧ Below B w w' := by
  have hUS := uns_none
  have c1 : w.drew.cell? ⟨b, 1, none⟩ = some (.slice (some ⟨g, 0, none⟩) 0 cap) := by
    have : w.drew.heap[b]? = some (.cells #[p, .slice (some ⟨g, 0, none⟩) 0 cap] 263 (0, 0)) := hbk
    rw [Lib.cell_of_heap this]; rfl
  have hSD : (Builtin.unsafeSliceData_ #[48] 259 #[.slice (some ⟨g, 0, none⟩) 0 cap]).run Tryz.prog w.drew = .ok (.pointer (some ⟨g, 0, none⟩)) w.drew :=
    Lib.run_unsafeSliceData_row _ _ _ _ _ _ hc0
  clear hc0
  go_enter Tryz.func208, Tryz.ntmps208
  go_wp2
  go_region
  all_goals (go_wp2; go_ret; exact ⟨rfl, Below.drew (Below.refl B w)⟩)

theorem string_any (B b : Nat) (l : List UInt8) (w : World) (h : Lib.IsBuilder 263 5 B b (Lib.byteCells l) w) (hBw : B ≤ w.heap.size) :
    Calls Tryz.prog 208 #[.pointer (some ⟨b, 0, none⟩)] w fun e w' => e = .returned (.string ⟨l.toArray⟩) ∧ Below B w w' := by
  cases l with
  | cons x r => exact string_some B b (x :: r) w h (by simp)
  | nil =>
    obtain ⟨p, hB, v, hbk, hown, hne⟩ : ∃ p, Lib.BuilderAt 263 5 B b p [] w := by
      rcases h with h | h
      · exact ⟨_, h⟩
      · exact ⟨_, h⟩
    rcases hown.2 with ⟨rfl, _⟩ | ⟨g, cap, cur, rfl, hbg, hg, _, _, _, _⟩
    · exact string_nil B b p w hbk
    · by_cases hc0 : cap = 0
      · subst hc0
        exact string_noroom B b g p cur w hBw hbk hg
      · exact string_room B b g cap p w hc0 hbk
end Bld
end Go.Proofs.YtfmbadinfhpihaaGreat
