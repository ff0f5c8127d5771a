/-
  Footprints: a call that owns the blocks S and in the end the blocks S' leaves every other block as it was; what S' has beyond S is new.
  Conditions: each lemma's own premises.
-/
import Derived.Test.YtiekolbkmgdfoaaWords
import Derived.Lib.Builder
import Derived.Lib.AppendStr
namespace Go.Proofs.Ytiekolbkmgdfoaa
open Go.RowKit

structure Mv (S S' : List Nat) (w w' : World) : Prop where
  os : w'.os = w.os
  tape : w'.tape = w.tape
  output : w'.output = w.output
  size : w.heap.size ≤ w'.heap.size
  block : ∀ k, k < w.heap.size → k ∉ S → w'.heap[k]? = w.heap[k]?
  link : ∀ k, k ∈ S' → k ∈ S ∨ w.heap.size ≤ k
section
variable {B : Nat} {S S' S'' T : List Nat} {w w' w'' : World}
theorem Mv.refl (S : List Nat) (w : World) : Mv S S w w := ⟨rfl, rfl, rfl, Nat.le_refl _, fun _ _ _ => rfl, fun _ h => .inl h⟩
theorem Mv.trans (h : Mv S S' w w') (h' : Mv S' S'' w' w'') : Mv S S'' w w'' := by
  have hs := h.size
  have hs' := h'.size
  refine ⟨h'.os.trans h.os, h'.tape.trans h.tape, h'.output.trans h.output, by omega, fun k hk hn => ?_, fun k hk => ?_⟩
  · rw [h'.block k (by omega) (fun hk' => (h.link k hk').elim hn (by omega)), h.block k hk hn]
  · rcases h'.link k hk with h1 | h1
    · exact h.link k h1
    · exact .inr (by omega)
theorem Mv.alloc (h : Mv S S' w w') (o : Obj) : Mv S S' w (w'.alloc o) :=
  ⟨h.os, h.tape, h.output, by have := h.size; simp; omega, fun k hk hn => (Below.heap_alloc _ _ _ (Nat.lt_of_lt_of_le hk h.size)).trans (h.block k hk hn), h.link⟩
theorem Mv.drewN (h : Mv S S' w w') (n : Nat) : Mv S S' w (w'.drewN n) := ⟨h.os, h.tape, h.output, h.size, h.block, h.link⟩
theorem Mv.set_ (h : Mv S S' w w') {g : Nat} (hg : g ∈ S') (i : Nat) (u : Value) : Mv S S' w (w'.setCell ⟨g, i, none⟩ u) := by
  have hb : Below g w' (w'.setCell ⟨g, i, none⟩ u) := (Below.refl _ _).setCell (p := ⟨g, i, none⟩) (Nat.le_refl _) u
  refine ⟨hb.os.trans h.os, hb.tape.trans h.tape, hb.output.trans h.output, Nat.le_trans h.size hb.size, fun k hk hn => ?_, h.link⟩
  rw [Below.heap_setCell _ _ _ _ (show k ≠ g from fun e => by subst e; exact (h.link _ hg).elim hn (by omega))]
  exact h.block k hk hn
theorem Mv.grown (h : Mv S S' w w') {row : Option Nat} (hg : w'.grownBy w'' row) (hrow : ∀ k, row = some k → k ∈ S') (hl : ∀ k, k ∈ S'' → k ∈ S' ∨ w'.heap.size ≤ k) : Mv S S'' w w'' := by
  have hs := h.size
  refine ⟨hg.os.trans h.os, hg.tape.trans h.tape, hg.output.trans h.output, Nat.le_trans hs hg.size, fun k hk hn => ?_, fun k hk => ?_⟩
  · rw [hg.block k (by omega) (fun e => (h.link k (hrow k e.symm)).elim hn (by omega))]
    exact h.block k hk hn
  · rcases hl k hk with h1 | h1
    · exact h.link k h1
    · exact .inr (by omega)
theorem Mv.mono (h : Mv S S' w w') (hST : ∀ k, k ∈ S → k ∈ T) : Mv T S' w w' := ⟨h.os, h.tape, h.output, h.size, fun k hk hn => h.block k hk (fun e => hn (hST k e)), fun k hk => (h.link k hk).imp (hST k) id⟩
theorem Mv.less (h : Mv S S' w w') (hST : ∀ k, k ∈ T → k ∈ S' ∨ w.heap.size ≤ k) : Mv S T w w' := ⟨h.os, h.tape, h.output, h.size, h.block, fun k hk => (hST k hk).elim (h.link k) .inr⟩
theorem Mv.of_new (h : Below w.heap.size w w') (hS : ∀ k, k ∈ S' → k ∈ S ∨ w.heap.size ≤ k) : Mv S S' w w' := ⟨h.os, h.tape, h.output, h.size, fun k hk _ => h.block k hk, hS⟩
theorem Mv.below (h : Mv S S' w w') (hS : ∀ k, k ∈ S → B ≤ k) (hB : B ≤ w.heap.size) : Below B w w' := ⟨h.os, h.tape, h.output, h.size, fun k hk => h.block k (by omega) (fun e => by have := hS k e; omega)⟩
theorem Mv.low (h : Mv S S' w w') (hS : ∀ k, k ∈ S → B ≤ k) (hB : B ≤ w.heap.size) : ∀ k, k ∈ S' → B ≤ k := fun k hk => (h.link k hk).elim (hS k) (by omega)
/-- The footprint of something else: apart from S, and there. -/
def Apart (S T : List Nat) (w : World) : Prop := ∀ k, k ∈ T → k ∉ S ∧ k < w.heap.size
theorem Apart.keep (h : Apart S T w) (hm : Mv S S' w w') : (∀ k, k ∈ T → w'.heap[k]? = w.heap[k]?) ∧ Apart S' T w' := by
  have hs := hm.size
  exact ⟨fun k hk => hm.block k (h k hk).2 (h k hk).1, fun k hk => ⟨fun e => (hm.link k e).elim (h k hk).1 (by have := (h k hk).2; omega), by have := (h k hk).2; omega⟩⟩
theorem Mv.block' (h : Mv S S' w w') (hT : Apart S T w) {k : Nat} (hk : k ∈ T) : w'.heap[k]? = w.heap[k]? := h.block k (hT k hk).2 (hT k hk).1
theorem Apart.swap (h : Apart S T w) (hS : ∀ k, k ∈ S → k < w.heap.size) : Apart T S w := fun k hk => ⟨fun e => (h k e).1 hk, hS k hk⟩
end
theorem drewN_below {B : Nat} {a w : World} (h : Below B a w) (n : Nat) : Below B a (w.drewN n) := ⟨h.os, h.tape, h.output, h.size, h.block⟩
/-- A row that a writer does not write. -/
theorem Reads.apart {S S' : List Nat} {w w' : World} {size n : Nat} {A : Option Addr} {xs : List Value} {C : Nat} (h : Reads w C size A n xs) (hs : ∀ ad, A = some ad → ad.block ∉ S ∧ ad.block < w.heap.size) (hf : Mv S S' w w') (hC : C ≤ w'.heap.size) : Reads w' w'.heap.size size A n xs :=
  ⟨h.1, fun hn => by
    obtain ⟨ad, e, hb, hc⟩ := h.2 hn
    refine ⟨ad, e, by omega, fun j u hu => ?_⟩
    rw [World.cell?_of_block (a := ad.add j) (w := w) (w' := w') (by rw [block_of_add]; exact hf.block _ (hs ad e).2 (hs ad e).1)]
    exact hc j u hu⟩
/-- Values in a new block. -/
theorem reads_newV (w : World) (xs : List Value) (t : TypeId) (cs : Array Value) (hcs : cs.toList = xs) {n b B : Nat} (hn : xs.length = n) (hb : b = w.heap.size) (hB : w.heap.size < B) : Reads (w.alloc (.cells cs t)) B 1 (some ⟨b, 0, none⟩) n xs := by
  subst hb hn
  refine ⟨by omega, fun _ => ⟨_, rfl, hB, fun j u hu => ?_⟩⟩
  have h : (w.alloc (.cells cs t)).heap[w.heap.size]? = some (.cells cs t (0, 0)) := heap_alloc_new w _
  have e : ((⟨w.heap.size, 0, none⟩ : Addr).add j) = ⟨w.heap.size, j, none⟩ := by
    unfold Addr.add; split
    · rename_i h; subst h; rfl
    · simp
  rw [e]
  simp only [World.cell?, h]
  rw [← hcs] at hu
  simpa using hu

section
variable {P : Program} {w : World}
theorem run_append_string_link (base : Nat) (t u ty e : TypeId) (i : TypeInfo) (ht : P.underlying t = some (.slice e)) (hu : P.underlying u = some .string) (hi : P.info? e = some i) (hz : i.zero = some (.int .u8 0))
    (hsize : i.size = 1) (hby : i.bytes = 1)
    (v : Value) (n : Nat) (xs : List Value) (hown : w.ownsRow base e 1 v n xs) (s : ByteArray)
    (h63 : n + s.size ≤ maxLen) (hbytes : n + s.size ≤ 140737488355328) (hbase : base ≤ w.heap.size) :
    ∃ v' w', (Builtin.append_ #[t, u] ty #[v, .string s]).run P w = .ok v' w' ∧ w'.ownsRow base e 1 v' (n + s.size) (xs ++ Lib.strCells s) ∧ w.grownBy w' v.ownBlock ∧
      (v'.ownBlock = v.ownBlock ∨ ∃ k, v'.ownBlock = some k ∧ w.heap.size ≤ k) := by
  obtain ⟨v', w', hr, h1, h2, h3⟩ := Lib.run_append_own_string (P := P) w base t u ty e i ht hu hi hz hsize hby v n xs hown s h63 hbytes hbase
  refine ⟨v', w', hr, h1, h2, ?_⟩
  rcases hown.2 with ⟨rfl, rfl⟩ | ⟨g, cap, cur, rfl, hbg, hg, hnc, hcm, hcs, htake⟩
  · have hx : xs = [] := List.eq_nil_of_length_eq_zero (by simpa using hown.1)
    subst hx
    obtain ⟨v2, w2, hr2, k1, k2, _⟩ := Lib.run_append_own_string (P := P) w w.heap.size t u ty e i ht hu hi hz hsize hby (.slice none 0 0) 0 [] (World.ownsRow_nil w _ e 1) s h63 hbytes (Nat.le_refl _)
    rw [hr] at hr2
    injection hr2 with e1 e2
    subst e1 e2
    rcases k1.2 with ⟨hv, _⟩ | ⟨g', cap, cur, hv, hb, _⟩
    · left; rw [hv]
    · right; exact ⟨g', by rw [hv]; rfl, hb⟩
  · have hxl : xs.length = n := by simpa using hown.1
    have hsmall : n + s.size ≤ 9223372036854775807 := by simp only [maxLen] at h63; omega
    by_cases hroom : n + s.size ≤ cap
    · have hr2 := Lib.run_append_room_string (P := P) w t u ty e i ht hu hi hsize g n cap cur hg s hroom (by simp at hcs; omega)
      rw [hr] at hr2
      injection hr2 with e1 e2
      left; rw [e1]; rfl
    · have hr2 := Lib.run_append_grow_string (P := P) w t u ty e i (.int .u8 0) ht hu hi hz ⟨g, 0, none⟩ n cap xs (by rw [hsize]; simpa using hxl) (hown.cells (g := g) rfl) s (by omega) (by omega) (by rw [hby]; exact growslice_fits (by omega) (by omega))
      rw [hr] at hr2
      injection hr2 with e1 e2
      right; exact ⟨w.heap.size, by rw [e1]; rfl, Nat.le_refl _⟩
theorem wpList_append_string_link {ops : Array Oper} {rest : List Oper} {o : Oper} {a : Act} {Q : Exit → Act → World → Prop} (hgd : o.guard = none) (sl x : Operand) (t u : TypeId)
    (ho : o.op = .call { callee := .builtin .append, args := #[sl, x], argTypes := #[t, u] })
    (base : Nat) (e : TypeId) (i : TypeInfo) (ht : P.underlying t = some (.slice e)) (hu : P.underlying u = some .string) (hi : P.info? e = some i) (hz : i.zero = some (.int .u8 0))
    (hsize : i.size = 1) (hby : i.bytes = 1)
    (v : Value) (n : Nat) (xs : List Value) (hs : a.eval sl = v) (hown : w.ownsRow base e 1 v n xs) (s : ByteArray) (hx : a.eval x = .string s)
    (h63 : n + s.size ≤ maxLen) (hbytes : n + s.size ≤ 140737488355328) (hbase : base ≤ w.heap.size)
    (h : ∀ v' w', w'.ownsRow base e 1 v' (n + s.size) (xs ++ Lib.strCells s) → w.grownBy w' v.ownBlock → (v'.ownBlock = v.ownBlock ∨ ∃ k, v'.ownBlock = some k ∧ w.heap.size ≤ k) → wpList P ops Q rest (a.put o.dst v') w') : wpList P ops Q (o :: rest) a w := by
  refine wpList_plain hgd fun K hK => ?_
  obtain ⟨v', w', hr, h2, h3, h4⟩ := run_append_string_link (P := P) base t u o.type e i ht hu hi hz hsize hby v n xs hown s h63 hbytes hbase
  unfold Oper.wp execOp
  simp only [ho, resolve, invoke, builtin, Sem.run_bind, Sem.run_pure, Result.andThen_ok, List.map_toArray, List.map_cons, List.map_nil, hs, hx, hr]
  exact hK _ _ (h v' w' h2 h3 h4)
end
end Go.Proofs.Ytiekolbkmgdfoaa
