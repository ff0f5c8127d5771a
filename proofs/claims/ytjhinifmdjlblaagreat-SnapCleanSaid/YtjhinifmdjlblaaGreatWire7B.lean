/-
  A writer and a reader beside each other: what one does leaves the other as it was.
  Conditions: their blocks are apart.
-/
import Derived.Test.YtjhinifmdjlblaaGreatWire5B
namespace Go.Proofs.YtjhinifmdjlblaaGreat.Wi
open Go.RowKit

section
variable {g : Nat} {S T T' : List Nat} {w w' : World}
theorem Mv.out (h : Mv T T' w w') (hg : g ∉ T) (hlt : g < w.heap.size) : g ∉ T' := fun e => (h.link g e).elim hg (by omega)
theorem WrAt.aside {e : Int} {bs : List UInt8} (h : WrAt g S e bs w) (hm : Mv T T' w w') (hA : ∀ k, k ∈ S → k ∉ T) : WrAt g S e bs w' := h.keep (fun k hk => hm.block k (h.there k hk) (hA k hk))
theorem WrAt.alloc {e : Int} {bs : List UInt8} (h : WrAt g S e bs w) (o : Obj) : WrAt g S e bs (w.alloc o) := h.keep (fun k hk => Below.heap_alloc _ _ _ (h.there k hk))
theorem WrAt.below {e : Int} {bs : List UInt8} (h : WrAt g S e bs w) (hb : Below w.heap.size w w') : WrAt g S e bs w' := h.keep (fun k hk => hb.block k (h.there k hk))
theorem RdAt.aside {e : Int} {s : ByteArray} {k : Nat} (h : RdAt g e s k w) (hm : Mv T T' w w') (hg : g ∉ T) : RdAt g e s k w' := (hm.block g h.lt hg).trans h
theorem RdAt.alloc {e : Int} {s : ByteArray} {k : Nat} (h : RdAt g e s k w) (o : Obj) : RdAt g e s k (w.alloc o) := (Below.heap_alloc _ _ _ h.lt).trans h
theorem RdAt.below {e : Int} {s : ByteArray} {k : Nat} (h : RdAt g e s k w) (hb : Below w.heap.size w w') : RdAt g e s k w' := (hb.block g h.lt).trans h
theorem not_mem_one {k : Nat} (h : g ∉ S) (hk : k ∈ S) : k ∉ [g] := by intro e; simp at e; subst e; exact h hk
end
/-- A row of arguments in a new block, apart from a writer's. -/
theorem apart_new {g b : Nat} {S : List Nat} {e : Int} {bs : List UInt8} {w : World} (h : WrAt g S e bs w) (hb : b = w.heap.size) (o : Obj) : ∀ ad, some (⟨b, 0, none⟩ : Addr) = some ad → ad.block ∉ S ∧ ad.block < (w.alloc o).heap.size := by
  intro ad h'
  injection h' with h'
  subst h' hb
  exact ⟨fun e => Nat.lt_irrefl _ (h.there _ e), by simp⟩
/-- Num of one number, Text of one text. -/
theorem num1_any (g : Nat) (S : List Nat) (st : Wire.St) (v : Int) (h1 : -9223372036854775808 ≤ v) (h2 : v ≤ 9223372036854775807) (b c : Nat) (w : World) (hb : b = w.heap.size) (h : WrAt g S st.1 st.2 w) (hN : st.2.length + 10 ≤ 1000000000) :
    Calls Tryz.prog 105 #[.pointer (some ⟨g, 0, none⟩), .slice (some ⟨b, 0, none⟩) 1 c] (w.alloc (.cells #[.int .i64 v] 3)) fun r w' => r = .returned (.tuple #[]) ∧ ∃ S', WrAt g S' (Wire.stNum st v).1 (Wire.stNum st v).2 w' ∧ Mv S S' w w' := by
  refine (nums_any g S st [v] (some ⟨b, 0, none⟩) c (w.heap.size + 1) _ (h.alloc _) (reads_newV w (ints [v]) 3 _ rfl rfl hb (Nat.lt_succ_self _)) (fun ad h' _ => apart_new h hb _ ad h') (by simpa using hN) (by intro x hx; simp at hx; subst hx; exact ⟨h1, h2⟩)).mono ?_
  rintro e w' ⟨rfl, S', hw, hm⟩
  exact ⟨rfl, S', hw, ((Mv.refl _ _).alloc _).trans hm⟩
end Go.Proofs.YtjhinifmdjlblaaGreat.Wi
