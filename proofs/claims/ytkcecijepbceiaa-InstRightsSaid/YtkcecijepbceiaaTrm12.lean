/-
  Terms as records.
  Conditions: none.
-/
import Derived.Test.YtkcecijepbceiaaWords
namespace Go.Proofs.Ytkcecijepbceiaa

/-- A term. -/
structure Trm where
  p : ByteArray
  a : ByteArray
  m : ByteArray
  o : ByteArray
  dl : Bool
  s : ByteArray
  c : ByteArray
  r : ByteArray
  q : Int
  am : Int
  dy : Int
  td : Int
def Trm.cells (x : Trm) : Array Value := #[.string x.p, .string x.a, .string x.m, .string x.o, .bool x.dl, .string x.s, .string x.c, .string x.r, .int .i64 x.q, .int .i64 x.am, .int .i64 x.dy, .int .i64 x.td]
def Trm.texts (x : Trm) : List ByteArray := [x.p, x.a, x.m, x.o, x.s, x.c, x.r]
def Trm.nums (x : Trm) : List Int := [x.q, x.am, x.dy, x.td]
def In64 (v : Int) : Prop := -9223372036854775808 ≤ v ∧ v ≤ 9223372036854775807
structure Trm.Fits (x : Trm) : Prop where
  texts : ∀ s ∈ x.texts, s.size ≤ 9223372036854775807
  nums : ∀ v ∈ x.nums, In64 v
end Go.Proofs.Ytkcecijepbceiaa
