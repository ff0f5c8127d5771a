/-
  No cell of these rows narrows 'for every input' (looked for: loops, veiled, ifaces, maps, wideKeys, modest, calm, conditions, laid).
  DERIVED. THE GIVEN ROWS OF THIS SEAT. 4 by the template 'for every input the law returns true; each argument reads behind the call as it read before'; 0 by the template 'total and deterministic' (their statements: YtiekolbkmgdfoaaTotals.lean).
  GIVEN WITH THE SEED: the statements are not yours to turn. If you find one false, say at which input.
  Laid BY PROGRAM, IN A SANDBOX (cutbox-rows.mjs): the forced cells as the released guide's own fill.sh prints them over the translation 85cb7b574a9c5e1a… (all of the seat's roots in one cut). By AI agents, Wed Nov 11 2026. No macro, syntax, notation, axiom, sorry.
-/
import Derived.Test.YtiekolbkmgdfoaaChecked
import GoSem.Claim
import GoSem.ClaimJoined
import GoSem.ClaimMapViews
import Derived.JoinedTies
import Derived.KernelRfl
namespace Go.Proofs.Ytiekolbkmgdfoaa
/- THE CELL 'sum', in the pinned program and in every row, IS THE sha256 OF THE DUMP (.gsa) THAT YtiekolbkmgdfoaaProg.lean LOADS. Nothing in Lean hashes anything: it is a label: what it is worth is what the hold of that sum in a sandbox is worth. -/
noncomputable def Try.pinned : Pinned := { name := "ytiekolbkmgdfoaa", sum := "85cb7b574a9c5e1a6260486cf8dff41d57c9749df7653332265a2a399394da1a", checked := Try.checked }
namespace Rows
def none {H : Type} : Left H := { results := [], args := [] }

/-- 'complinelaw20.ValuePicks': WHATEVER THE INPUT: true; the input reads as it did. -/
def valuePicksSpec : ChangeSpec := { name := "valuePicks", fn := fun _ => fun
  | [d1, d2] => { results := [.lit (.bool true)], args := [d1, d2] }
  | _ => none }
def valuePicksRow : OpenClaim := { program := "ytiekolbkmgdfoaa", sum := "85cb7b574a9c5e1a6260486cf8dff41d57c9749df7653332265a2a399394da1a", func := "compline/complinelaw20.ValuePicks", spec := "valuePicks", inPlace := ["math/bits.Add64"], named := ["math/bits.divideError", "math/bits.overflowError"], apart := false }
def ValuePicksSaid : Prop := valuePicksRow.holds Try.pinned (OpenSpec.ofChange valuePicksSpec)

/-- ITS FALSE NEIGHBOUR: 'it returns false'. Refute it at one input. -/
def valuePicksWrong : ChangeSpec := { name := "valuePicks", fn := fun _ => fun
  | [d1, d2] => { results := [.lit (.bool false)], args := [d1, d2] }
  | _ => none }
def ValuePicksWrongFalsely : Prop := valuePicksRow.holds Try.pinned (OpenSpec.ofChange valuePicksWrong)

/-- 'complinelaw20.ValueEnough': WHATEVER THE INPUT: true; the input reads as it did. -/
def valueEnoughSpec : ChangeSpec := { name := "valueEnough", fn := fun _ => fun
  | [d1, d2, d3, d4] => { results := [.lit (.bool true)], args := [d1, d2, d3, d4] }
  | _ => none }
def valueEnoughRow : OpenClaim := { program := "ytiekolbkmgdfoaa", sum := "85cb7b574a9c5e1a6260486cf8dff41d57c9749df7653332265a2a399394da1a", func := "compline/complinelaw20.ValueEnough", spec := "valueEnough", inPlace := ["math/bits.Add64"], named := ["math/bits.divideError", "math/bits.overflowError"], apart := false }
def ValueEnoughSaid : Prop := valueEnoughRow.holds Try.pinned (OpenSpec.ofChange valueEnoughSpec)

/-- ITS FALSE NEIGHBOUR: 'it returns false'. Refute it at one input. -/
def valueEnoughWrong : ChangeSpec := { name := "valueEnough", fn := fun _ => fun
  | [d1, d2, d3, d4] => { results := [.lit (.bool false)], args := [d1, d2, d3, d4] }
  | _ => none }
def ValueEnoughWrongFalsely : Prop := valueEnoughRow.holds Try.pinned (OpenSpec.ofChange valueEnoughWrong)

/-- 'complinelaw20.ValueNone': WHATEVER THE INPUT: true; the input reads as it did. -/
def valueNoneSpec : ChangeSpec := { name := "valueNone", fn := fun _ => fun
  | [d1, d2] => { results := [.lit (.bool true)], args := [d1, d2] }
  | _ => none }
def valueNoneRow : OpenClaim := { program := "ytiekolbkmgdfoaa", sum := "85cb7b574a9c5e1a6260486cf8dff41d57c9749df7653332265a2a399394da1a", func := "compline/complinelaw20.ValueNone", spec := "valueNone", inPlace := ["math/bits.Add64"], named := ["math/bits.divideError", "math/bits.overflowError"], apart := false }
def ValueNoneSaid : Prop := valueNoneRow.holds Try.pinned (OpenSpec.ofChange valueNoneSpec)

/-- ITS FALSE NEIGHBOUR: 'it returns false'. Refute it at one input. -/
def valueNoneWrong : ChangeSpec := { name := "valueNone", fn := fun _ => fun
  | [d1, d2] => { results := [.lit (.bool false)], args := [d1, d2] }
  | _ => none }
def ValueNoneWrongFalsely : Prop := valueNoneRow.holds Try.pinned (OpenSpec.ofChange valueNoneWrong)

/-- 'complinelaw20.ValueMerges': WHATEVER THE INPUT: true; the input reads as it did. -/
def valueMergesSpec : ChangeSpec := { name := "valueMerges", fn := fun _ => fun
  | [d1, d2, d3, d4] => { results := [.lit (.bool true)], args := [d1, d2, d3, d4] }
  | _ => none }
def valueMergesRow : OpenClaim := { program := "ytiekolbkmgdfoaa", sum := "85cb7b574a9c5e1a6260486cf8dff41d57c9749df7653332265a2a399394da1a", func := "compline/complinelaw20.ValueMerges", spec := "valueMerges", inPlace := ["math/bits.Add64"], unfollowed := true, recurses := true, named := ["math/bits.divideError", "math/bits.overflowError"], apart := false }
def ValueMergesSaid : Prop := valueMergesRow.holds Try.pinned (OpenSpec.ofChange valueMergesSpec)

/-- ITS FALSE NEIGHBOUR: 'it returns false'. Refute it at one input. -/
def valueMergesWrong : ChangeSpec := { name := "valueMerges", fn := fun _ => fun
  | [d1, d2, d3, d4] => { results := [.lit (.bool false)], args := [d1, d2, d3, d4] }
  | _ => none }
def ValueMergesWrongFalsely : Prop := valueMergesRow.holds Try.pinned (OpenSpec.ofChange valueMergesWrong)

/- THE SECOND FORM. 'bulk': how many values and letters a reading holds, each counted each time it is reached (what is shared counts as often as it is met; a slice's spare places count too). A statement '..UptoSaid' is the law's where the arguments, and the package variables that the reading takes, are together of bulk at most 1048576: NARROWER than '..Said'. Prove '..Said' where nothing that the law and all that it calls make is longer than what came in: it says more and counts as full. Else prove '..UptoSaid'. A law counts once. -/
mutual
def uptoBulk {H : Type} : DataW H → Nat
  | .lit (.string bytes) => bytes.length + 1
  | .lit _ => 1
  | .nil => 1
  | .ptr d => uptoBulk d + 1
  | .slice elems spare => uptoBulkAll elems + uptoBulkAll spare + 1
  | .agg parts => uptoBulkAll parts + 1
  | .iface _ d => uptoBulk d + 1
  | .map entries => uptoBulkEntries entries + 1
  | .held _ => 1
def uptoBulkAll {H : Type} : List (DataW H) → Nat
  | [] => 0
  | d :: r => uptoBulk d + uptoBulkAll r
def uptoBulkEntries {H : Type} : List (Lit × DataW H) → Nat
  | [] => 0
  | x :: r => uptoBulkEntry x + uptoBulkEntries r
def uptoBulkEntry {H : Type} : Lit × DataW H → Nat
  | (.string bytes, d) => bytes.length + uptoBulk d + 1
  | (_, d) => uptoBulk d + 1
 end
def uptoSmall : (H : Type) → List (DataW H) → Bool := fun _ ds => decide (uptoBulkAll ds ≤ 1048576)
def OpenSpec.upto (s : _root_.Go.ChangeSpec) : _root_.Go.OpenSpec := { _root_.Go.OpenSpec.ofChange s with cond := some uptoSmall }

/-- 'complinelaw20.ValuePicks', WHERE WHAT IT READS IS OF BULK AT MOST 1048576: true; the input reads as it did. -/
def valuePicksUptoRow : OpenClaim := { program := "ytiekolbkmgdfoaa", sum := "85cb7b574a9c5e1a6260486cf8dff41d57c9749df7653332265a2a399394da1a", func := "compline/complinelaw20.ValuePicks", spec := "valuePicks", inPlace := ["math/bits.Add64"], named := ["math/bits.divideError", "math/bits.overflowError"], apart := false, narrowed := true }
def ValuePicksUptoSaid : Prop := valuePicksUptoRow.holds Try.pinned (OpenSpec.upto valuePicksSpec)

/-- 'complinelaw20.ValueEnough', WHERE WHAT IT READS IS OF BULK AT MOST 1048576: true; the input reads as it did. -/
def valueEnoughUptoRow : OpenClaim := { program := "ytiekolbkmgdfoaa", sum := "85cb7b574a9c5e1a6260486cf8dff41d57c9749df7653332265a2a399394da1a", func := "compline/complinelaw20.ValueEnough", spec := "valueEnough", inPlace := ["math/bits.Add64"], named := ["math/bits.divideError", "math/bits.overflowError"], apart := false, narrowed := true }
def ValueEnoughUptoSaid : Prop := valueEnoughUptoRow.holds Try.pinned (OpenSpec.upto valueEnoughSpec)

/-- 'complinelaw20.ValueNone', WHERE WHAT IT READS IS OF BULK AT MOST 1048576: true; the input reads as it did. -/
def valueNoneUptoRow : OpenClaim := { program := "ytiekolbkmgdfoaa", sum := "85cb7b574a9c5e1a6260486cf8dff41d57c9749df7653332265a2a399394da1a", func := "compline/complinelaw20.ValueNone", spec := "valueNone", inPlace := ["math/bits.Add64"], named := ["math/bits.divideError", "math/bits.overflowError"], apart := false, narrowed := true }
def ValueNoneUptoSaid : Prop := valueNoneUptoRow.holds Try.pinned (OpenSpec.upto valueNoneSpec)

/-- 'complinelaw20.ValueMerges', WHERE WHAT IT READS IS OF BULK AT MOST 1048576: true; the input reads as it did. -/
def valueMergesUptoRow : OpenClaim := { program := "ytiekolbkmgdfoaa", sum := "85cb7b574a9c5e1a6260486cf8dff41d57c9749df7653332265a2a399394da1a", func := "compline/complinelaw20.ValueMerges", spec := "valueMerges", inPlace := ["math/bits.Add64"], unfollowed := true, recurses := true, named := ["math/bits.divideError", "math/bits.overflowError"], apart := false, narrowed := true }
def ValueMergesUptoSaid : Prop := valueMergesUptoRow.holds Try.pinned (OpenSpec.upto valueMergesSpec)

end Rows
end Go.Proofs.Ytiekolbkmgdfoaa
