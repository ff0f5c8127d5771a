/-
  The walk of WireWrites: every writer, and every thing put, in every order; what is handed in stays.
  Conditions: steps in memory.
-/
import Derived.Test.YtfjdcmhhnknojaaRw2
import Derived.Test.YtfjdcmhhnknojaaLent
import Derived.Test.YtfjdcmhhnknojaaWireBack
namespace Go.Proofs.Ytfjdcmhhnknojaa
open Go.RowKit

/-- One step of any kind. -/
def stKind (st : Wire.St) (x : WOp) : Wire.St :=
  if x.kind = 1 then x.nn.foldl Wire.stNum st else if x.kind = 2 then (x.tt.map (·.data.toList)).foldl Wire.stText st else if x.kind = 3 then x.bb.foldl Wire.stBool st else if x.kind = 4 then x.nn.foldl Wire.stFail st else st
theorem stFail_len (l : List Int) : ∀ st : Wire.St, (l.foldl Wire.stFail st).2 = st.2 := by
  induction l with
  | nil => intro st; rfl
  | cons x l ih =>
    intro st
    rw [List.foldl_cons, ih]
    unfold Wire.stFail
    split <;> rfl
theorem stKind_len {x : WOp} (h : x.Short) (st : Wire.St) : (stKind st x).2.length ≤ st.2.length + 9189000 := by
  obtain ⟨h1, h2, h3, _⟩ := h
  unfold stKind
  split
  · have := Wire.stNum_len st x.nn; omega
  · split
    · have := Wire.stText_len st (x.tt.map (·.data.toList)); rw [List.length_map] at this; omega
    · split
      · have := Wire.stBool_len st x.bb; omega
      · split
        · rw [stFail_len]; omega
        · omega
/-- Two writers beside each other. -/
structure Pr (g h B : Nat) (S T : List Nat) (s t : Wire.St) (w : World) : Prop where
  a : WrAt g S s.1 s.2 w
  b : RwAt h T t.1 t.2 w
  la : ∀ k ∈ S, B ≤ k
  lb : ∀ k ∈ T, B ≤ k
  ap : ∀ k ∈ S, k ∉ T
section
variable {g h B : Nat} {S T S' T' : List Nat} {s t s' t' : Wire.St} {w w' : World}
theorem Pr.wr (p : Pr g h B S T s t w) (hw : WrAt g S' s'.1 s'.2 w') (hm : Mv S S' w w') (hB : B ≤ w.heap.size) : Pr g h B S' T s' t w' :=
  ⟨hw, p.b.keep (fun k hk => hm.block k (p.b.there k hk) (fun e => p.ap k e hk)), hm.low p.la hB, p.lb, fun k hk hT => (hm.link k hk).elim (fun e => p.ap k e hT) (fun e => by have := p.b.there k hT; omega)⟩
theorem Pr.rw' (p : Pr g h B S T s t w) (hw : RwAt h T' t'.1 t'.2 w') (hm : Mv T T' w w') (hB : B ≤ w.heap.size) : Pr g h B S T' s t' w' :=
  ⟨p.a.keep (fun k hk => hm.block k (p.a.there k hk) (p.ap k hk)), hw, p.la, hm.low p.lb hB, fun k hk hT => (hm.link k hT).elim (fun e => p.ap k hk e) (fun e => by have := p.a.there k hk; omega)⟩
theorem Pr.below (p : Pr g h B S T s t w) (hb : Below w.heap.size w w') : Pr g h B S T s t w' :=
  ⟨p.a.keep (fun k hk => hb.block k (p.a.there k hk)), p.b.keep (fun k hk => hb.block k (p.b.there k hk)), p.la, p.lb, p.ap⟩
end
/-- A row that is apart from what moved. -/
theorem reads_aside {T T' : List Nat} {w w' : World} {n : Nat} {b : Nat} {xs : List Value} (h : Reads w w.heap.size 1 (some ⟨b, 0, none⟩) n xs) (hm : Mv T T' w w') (hb : b ∉ T) (hlt : b < w.heap.size) : Reads w' w'.heap.size 1 (some ⟨b, 0, none⟩) n xs :=
  Reads.apart h (fun ad e => by injection e with e; subst e; exact ⟨hb, hlt⟩) hm (by exact hm.size)
theorem rw_new (w : World) : RwAt w.heap.size [w.heap.size] 0 [] (w.alloc (.cells #[.slice none 0 0, .int .i64 0] 47)) :=
  ⟨.slice none 0 0, by simp [Value.ownBlock], heap_alloc_new _ _, ownsRow_nil _ _ _ _, by simp [Value.ownBlock]⟩
theorem wr_new (w : World) : WrAt w.heap.size [w.heap.size] 0 [] (w.alloc (.cells #[.int .i64 0, .slice none 0 0] 49)) :=
  ⟨.slice none 0 0, by simp [Value.ownBlock], heap_alloc_new _ _, ownsRow_nil _ _ _ _, by simp [Value.ownBlock]⟩
/-- A step's own copy in a block. -/
def Copied (b0 : Nat) (y : WOp) (w : World) : Prop := w.heap[b0]? = some (.cells #[.int .i64 y.kind, .slice y.na y.nn.length y.nc, .slice y.ta y.tt.length y.tc, .slice y.ba y.bb.length y.bc] 54 (0, 0))
theorem Copied.at1 {b0 : Nat} {y : WOp} {w : World} (h : Copied b0 y w) : w.cell? ⟨b0, 1, none⟩ = some (.slice y.na y.nn.length y.nc) := by rw [Lib.cell_of_heap h]; rfl
theorem Copied.at2 {b0 : Nat} {y : WOp} {w : World} (h : Copied b0 y w) : w.cell? ⟨b0, 2, none⟩ = some (.slice y.ta y.tt.length y.tc) := by rw [Lib.cell_of_heap h]; rfl
theorem Copied.at3 {b0 : Nat} {y : WOp} {w : World} (h : Copied b0 y w) : w.cell? ⟨b0, 3, none⟩ = some (.slice y.ba y.bb.length y.bc) := by rw [Lib.cell_of_heap h]; rfl
theorem Copied.mv {b0 : Nat} {y : WOp} {w w' : World} {S S' : List Nat} (h : Copied b0 y w) (hm : Mv S S' w w') (hb : b0 ∉ S) : Copied b0 y w' := (hm.block b0 (Blk.lt (t := 54) h) hb).trans h
theorem Copied.below {b0 : Nat} {y : WOp} {w w' : World} (h : Copied b0 y w) (hm : Below w.heap.size w w') : Copied b0 y w' := (hm.block b0 (Blk.lt (t := 54) h)).trans h
theorem Copied.lt {b0 : Nat} {y : WOp} {w : World} (h : Copied b0 y w) : b0 < w.heap.size := Blk.lt (t := 54) h
theorem reads_first {w : World} {C n : Nat} {A : Option Addr} {xs : List Value} {u : Value} (hn : xs.length = n) (h : Reads w C 1 A (n + 1) (xs ++ [u])) : Reads w C 1 A n xs := by
  refine ⟨by omega, fun _ => ?_⟩
  obtain ⟨ad, e, hb, hc⟩ := h.2 (by omega)
  refine ⟨ad, e, hb, fun j v hv => hc j v ?_⟩
  rw [List.getElem?_append_left (List.getElem?_eq_some_iff.1 hv).1]
  exact hv
theorem ints_snoc (l : List Int) (v : Int) : ints (l ++ [v]) = ints l ++ [.int .i64 v] := by simp [ints]
theorem strs_snoc (l : List ByteArray) (v : ByteArray) : strs (l ++ [v]) = strs l ++ [.string v] := by simp [strs]
theorem Mv.app_l {S S' T : List Nat} {w w' : World} (h : Mv S S' w w') : Mv (S ++ T) (S' ++ T) w w' :=
  ⟨h.os, h.tape, h.output, h.size, fun k hk hn => h.block k hk (fun e => hn (List.mem_append.2 (.inl e))), fun k hk => (List.mem_append.1 hk).elim (fun e => (h.link k e).imp (fun e => List.mem_append.2 (.inl e)) id) (fun e => .inl (List.mem_append.2 (.inr e)))⟩
theorem Mv.app_r {S T T' : List Nat} {w w' : World} (h : Mv T T' w w') : Mv (S ++ T) (S ++ T') w w' :=
  ⟨h.os, h.tape, h.output, h.size, fun k hk hn => h.block k hk (fun e => hn (List.mem_append.2 (.inr e))), fun k hk => (List.mem_append.1 hk).elim (fun e => .inl (List.mem_append.2 (.inl e))) (fun e => (h.link k e).imp (fun e => List.mem_append.2 (.inr e)) id)⟩

theorem len_up {a b k : Nat} (h1 : a ≤ b + 9189000) (h2 : b ≤ k * 9189000) : a ≤ (k + 1) * 9189000 := by omega
end Go.Proofs.Ytfjdcmhhnknojaa
