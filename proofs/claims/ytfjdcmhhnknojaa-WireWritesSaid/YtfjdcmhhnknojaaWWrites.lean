/-
  The walk of WireWrites: every writer, and every thing put, in every order; what is handed in stays.
  Conditions: steps in memory.
-/
import Derived.Test.YtfjdcmhhnknojaaWWritesA
import Derived.Test.YtfjdcmhhnknojaaWWritesB
namespace Go.Proofs.Ytfjdcmhhnknojaa
open Go.RowKit

theorem wwrites_walk (zero : Bool) (l : List WOp) (A : Option Addr) (c : Nat) (w : World) (hr : WOpsAt w w.heap.size A l) (hl : l.length ≤ 9223372036854775807) (hf : ∀ x ∈ l, x.Fits) :
    Calls Try.prog 5 #[.bool zero, .slice A l.length c] w fun e w' => e = .returned (.bool true) ∧ Below w.heap.size w w' := by
  cases zero
  · exact wwrites_false l A c w hr hl hf
  · exact wwrites_true l A c w hr hl hf
end Go.Proofs.Ytfjdcmhhnknojaa
