/-
  Terms and instructions as records; what a writer holds of them.
  Conditions: as each lemma says.
-/
import Derived.Test.YtkcecijepbceiaaWireBackPlainB
import Derived.LoopN
namespace Go.Proofs.Ytkcecijepbceiaa
open Go.RowKit

/-- A term. -/
structure Trm where
  p : ByteArray
  a : ByteArray
  m : ByteArray
  o : ByteArray
  dl : Bool
  s : ByteArray
  c : ByteArray
  r : ByteArray
  q : Int
  am : Int
  dy : Int
  td : Int
/-- An instruction. -/
structure Ins where
  id : Int
  t : Trm
  pr : Int
  part : Bool
  held : Bool
  wish : Bool
  st : Int
  ma : Int
  dn : Int
  pd : Int
def Trm.cells (x : Trm) : Array Value := #[.string x.p, .string x.a, .string x.m, .string x.o, .bool x.dl, .string x.s, .string x.c, .string x.r, .int .i64 x.q, .int .i64 x.am, .int .i64 x.dy, .int .i64 x.td]
def Ins.cells (x : Ins) : Array Value := #[.int .i64 x.id, .string x.t.p, .string x.t.a, .string x.t.m, .string x.t.o, .bool x.t.dl, .string x.t.s, .string x.t.c, .string x.t.r, .int .i64 x.t.q, .int .i64 x.t.am, .int .i64 x.t.dy, .int .i64 x.t.td, .int .i64 x.pr, .bool x.part, .bool x.held, .bool x.wish, .int .i64 x.st, .int .i64 x.ma, .int .i64 x.dn, .int .i64 x.pd]
def Trm.texts (x : Trm) : List ByteArray := [x.p, x.a, x.m, x.o, x.s, x.c, x.r]
def Trm.nums (x : Trm) : List Int := [x.q, x.am, x.dy, x.td]
def In64 (v : Int) : Prop := -9223372036854775808 ≤ v ∧ v ≤ 9223372036854775807
structure Trm.Fits (x : Trm) : Prop where
  texts : ∀ s ∈ x.texts, s.size ≤ 9223372036854775807
  nums : ∀ v ∈ x.nums, In64 v
structure Ins.Fits (x : Ins) : Prop where
  t : x.t.Fits
  id : In64 x.id
  pr : In64 x.pr
  nums : ∀ v ∈ [x.st, x.ma, x.dn, x.pd], In64 v
/-- What a term, an instruction are to a writer. -/
def Trm.ops (x : Trm) : List Wire.Op3 := [([], x.texts.map (·.data.toList), [x.dl]), (x.nums, [], [])]
def Ins.ops (x : Ins) : List Wire.Op3 := [([x.id], [], [])] ++ x.t.ops ++ [([x.pr], [], [x.part, x.held, x.wish]), ([x.st, x.ma, x.dn, x.pd], [], [])]
theorem mv_setNew {g b : Nat} {w W : World} (h : Mv [g] [g] w W) (hb : w.heap.size ≤ b) (i : Nat) (u : Value) : Mv [g] [g] w (W.setCell ⟨b, i, none⟩ u) := by
  have hs : Below b W (W.setCell ⟨b, i, none⟩ u) := (Below.refl _ _).setCell (p := ⟨b, i, none⟩) (Nat.le_refl _) u
  exact ⟨hs.os.trans h.os, hs.tape.trans h.tape, hs.output.trans h.output, Nat.le_trans h.size hs.size, fun k hk hn => (Below.heap_setCell _ _ _ _ (show k ≠ b by omega)).trans (h.block k hk hn), h.link⟩
theorem mv_setRowNew {g b : Nat} {w W : World} (h : Mv [g] [g] w W) (hb : w.heap.size ≤ b) (cs : Array Value) : Mv [g] [g] w (W.setRow b cs) :=
  ⟨(setRow_os W b cs).trans h.os, (setRow_tape W b cs).trans h.tape, (setRow_output W b cs).trans h.output, by rw [setRow_size]; exact h.size, fun k hk hn => (setRow_other W b k cs (by omega)).trans (h.block k hk hn), h.link⟩
end Go.Proofs.Ytkcecijepbceiaa
