/-
  No cell of these rows narrows 'for every input' (looked for: loops, veiled, ifaces, maps, wideKeys, modest, calm, conditions, laid).
  DERIVED. THE GIVEN ROWS OF THIS SEAT. 7 by the template 'for every input the law returns true; each argument reads behind the call as it read before'; 0 by the template 'total and deterministic' (their statements: YtkcecijepbceiaaTotals.lean).
  GIVEN WITH THE SEED: the statements are not yours to turn. If you find one false, say at which input.
  Laid BY PROGRAM, IN A SANDBOX (cutbox-rows.mjs): the forced cells as the released guide's own fill.sh prints them over the translation e6cef634148ce1ef… (all of the seat's roots in one cut). By AI agents, Wed Nov 11 2026. No macro, syntax, notation, axiom, sorry.
-/
import Derived.Test.YtkcecijepbceiaaChecked
import GoSem.Claim
import GoSem.ClaimJoined
import GoSem.ClaimMapViews
import Derived.JoinedTies
import Derived.KernelRfl
namespace Go.Proofs.Ytkcecijepbceiaa
/- THE CELL 'sum', in the pinned program and in every row, IS THE sha256 OF THE DUMP (.gsa) THAT YtkcecijepbceiaaProg.lean LOADS. Nothing in Lean hashes anything: it is a label: what it is worth is what the hold of that sum in a sandbox is worth. -/
noncomputable def Try.pinned : Pinned := { name := "ytkcecijepbceiaa", sum := "e6cef634148ce1eff946d6136b2e9df697cba6dd7fbde947d304f4a46410680f", checked := Try.checked }
namespace Rows
def none {H : Type} : Left H := { results := [], args := [] }

/-- 'complinelaw12.InstOwes': WHATEVER THE INPUT: true; the input reads as it did. -/
def instOwesSpec : ChangeSpec := { name := "instOwes", fn := fun _ => fun
  | [d1, d2] => { results := [.lit (.bool true)], args := [d1, d2] }
  | _ => none }
def instOwesRow : OpenClaim := { program := "ytkcecijepbceiaa", sum := "e6cef634148ce1eff946d6136b2e9df697cba6dd7fbde947d304f4a46410680f", func := "compline/complinelaw12.InstOwes", spec := "instOwes", named := ["math/bits.divideError", "math/bits.overflowError"], apart := false }
def InstOwesSaid : Prop := instOwesRow.holds Try.pinned (OpenSpec.ofChange instOwesSpec)

/-- ITS FALSE NEIGHBOUR: 'it returns false'. Refute it at one input. -/
def instOwesWrong : ChangeSpec := { name := "instOwes", fn := fun _ => fun
  | [d1, d2] => { results := [.lit (.bool false)], args := [d1, d2] }
  | _ => none }
def InstOwesWrongFalsely : Prop := instOwesRow.holds Try.pinned (OpenSpec.ofChange instOwesWrong)

/-- 'complinelaw12.InstParts': WHATEVER THE INPUT: true; the input reads as it did. -/
def instPartsSpec : ChangeSpec := { name := "instParts", fn := fun _ => fun
  | [d1, d2, d3] => { results := [.lit (.bool true)], args := [d1, d2, d3] }
  | _ => none }
def instPartsRow : OpenClaim := { program := "ytkcecijepbceiaa", sum := "e6cef634148ce1eff946d6136b2e9df697cba6dd7fbde947d304f4a46410680f", func := "compline/complinelaw12.InstParts", spec := "instParts", named := ["math/bits.divideError", "math/bits.overflowError"], apart := false }
def InstPartsSaid : Prop := instPartsRow.holds Try.pinned (OpenSpec.ofChange instPartsSpec)

/-- ITS FALSE NEIGHBOUR: 'it returns false'. Refute it at one input. -/
def instPartsWrong : ChangeSpec := { name := "instParts", fn := fun _ => fun
  | [d1, d2, d3] => { results := [.lit (.bool false)], args := [d1, d2, d3] }
  | _ => none }
def InstPartsWrongFalsely : Prop := instPartsRow.holds Try.pinned (OpenSpec.ofChange instPartsWrong)

/-- 'complinelaw12.InstShares': WHATEVER THE INPUT: true; the input reads as it did. -/
def instSharesSpec : ChangeSpec := { name := "instShares", fn := fun _ => fun
  | [d1, d2, d3, d4, d5] => { results := [.lit (.bool true)], args := [d1, d2, d3, d4, d5] }
  | _ => none }
def instSharesRow : OpenClaim := { program := "ytkcecijepbceiaa", sum := "e6cef634148ce1eff946d6136b2e9df697cba6dd7fbde947d304f4a46410680f", func := "compline/complinelaw12.InstShares", spec := "instShares", named := ["math/bits.divideError", "math/bits.overflowError"], apart := false }
def InstSharesSaid : Prop := instSharesRow.holds Try.pinned (OpenSpec.ofChange instSharesSpec)

/-- ITS FALSE NEIGHBOUR: 'it returns false'. Refute it at one input. -/
def instSharesWrong : ChangeSpec := { name := "instShares", fn := fun _ => fun
  | [d1, d2, d3, d4, d5] => { results := [.lit (.bool false)], args := [d1, d2, d3, d4, d5] }
  | _ => none }
def InstSharesWrongFalsely : Prop := instSharesRow.holds Try.pinned (OpenSpec.ofChange instSharesWrong)

/-- 'complinelaw12.InstBytes': WHATEVER THE INPUT: true; the input reads as it did. -/
def instBytesSpec : ChangeSpec := { name := "instBytes", fn := fun _ => fun
  | [d1, d2] => { results := [.lit (.bool true)], args := [d1, d2] }
  | _ => none }
def instBytesRow : OpenClaim := { program := "ytkcecijepbceiaa", sum := "e6cef634148ce1eff946d6136b2e9df697cba6dd7fbde947d304f4a46410680f", func := "compline/complinelaw12.InstBytes", spec := "instBytes", named := ["math/bits.divideError", "math/bits.overflowError"], apart := false }
def InstBytesSaid : Prop := instBytesRow.holds Try.pinned (OpenSpec.ofChange instBytesSpec)

/-- ITS FALSE NEIGHBOUR: 'it returns false'. Refute it at one input. -/
def instBytesWrong : ChangeSpec := { name := "instBytes", fn := fun _ => fun
  | [d1, d2] => { results := [.lit (.bool false)], args := [d1, d2] }
  | _ => none }
def InstBytesWrongFalsely : Prop := instBytesRow.holds Try.pinned (OpenSpec.ofChange instBytesWrong)

/-- 'complinelaw12.InstBack': WHATEVER THE INPUT: true; the input reads as it did. -/
def instBackSpec : ChangeSpec := { name := "instBack", fn := fun _ => fun
  | [d] => { results := [.lit (.bool true)], args := [d] }
  | _ => none }
def instBackRow : OpenClaim := { program := "ytkcecijepbceiaa", sum := "e6cef634148ce1eff946d6136b2e9df697cba6dd7fbde947d304f4a46410680f", func := "compline/complinelaw12.InstBack", spec := "instBack", named := ["math/bits.divideError", "math/bits.overflowError"], apart := false }
def InstBackSaid : Prop := instBackRow.holds Try.pinned (OpenSpec.ofChange instBackSpec)

/-- ITS FALSE NEIGHBOUR: 'it returns false'. Refute it at one input. -/
def instBackWrong : ChangeSpec := { name := "instBack", fn := fun _ => fun
  | [d] => { results := [.lit (.bool false)], args := [d] }
  | _ => none }
def InstBackWrongFalsely : Prop := instBackRow.holds Try.pinned (OpenSpec.ofChange instBackWrong)

/-- 'complinelaw12.InstChecks': WHATEVER THE INPUT: true; the input reads as it did. -/
def instChecksSpec : ChangeSpec := { name := "instChecks", fn := fun _ => fun
  | [d1, d2, d3] => { results := [.lit (.bool true)], args := [d1, d2, d3] }
  | _ => none }
def instChecksRow : OpenClaim := { program := "ytkcecijepbceiaa", sum := "e6cef634148ce1eff946d6136b2e9df697cba6dd7fbde947d304f4a46410680f", func := "compline/complinelaw12.InstChecks", spec := "instChecks", inPlace := ["maps.clone"], unfollowed := true, recurses := true, named := ["math/bits.divideError", "math/bits.overflowError"], apart := false }
def InstChecksSaid : Prop := instChecksRow.holds Try.pinned (OpenSpec.ofChange instChecksSpec)

/-- ITS FALSE NEIGHBOUR: 'it returns false'. Refute it at one input. -/
def instChecksWrong : ChangeSpec := { name := "instChecks", fn := fun _ => fun
  | [d1, d2, d3] => { results := [.lit (.bool false)], args := [d1, d2, d3] }
  | _ => none }
def InstChecksWrongFalsely : Prop := instChecksRow.holds Try.pinned (OpenSpec.ofChange instChecksWrong)

/-- 'complinelaw12.InstRights': WHATEVER THE INPUT: true; the input reads as it did. -/
def instRightsSpec : ChangeSpec := { name := "instRights", fn := fun _ => fun
  | [d1, d2, d3] => { results := [.lit (.bool true)], args := [d1, d2, d3] }
  | _ => none }
def instRightsRow : OpenClaim := { program := "ytkcecijepbceiaa", sum := "e6cef634148ce1eff946d6136b2e9df697cba6dd7fbde947d304f4a46410680f", func := "compline/complinelaw12.InstRights", spec := "instRights", inPlace := ["maps.clone"], unfollowed := true, recurses := true, named := ["math/bits.divideError", "math/bits.overflowError"], apart := false }
def InstRightsSaid : Prop := instRightsRow.holds Try.pinned (OpenSpec.ofChange instRightsSpec)

/-- ITS FALSE NEIGHBOUR: 'it returns false'. Refute it at one input. -/
def instRightsWrong : ChangeSpec := { name := "instRights", fn := fun _ => fun
  | [d1, d2, d3] => { results := [.lit (.bool false)], args := [d1, d2, d3] }
  | _ => none }
def InstRightsWrongFalsely : Prop := instRightsRow.holds Try.pinned (OpenSpec.ofChange instRightsWrong)

/- THE SECOND FORM. 'bulk': how many values and letters a reading holds, each counted each time it is reached (what is shared counts as often as it is met; a slice's spare places count too). A statement '..UptoSaid' is the law's where the arguments, and the package variables that the reading takes, are together of bulk at most 1048576: NARROWER than '..Said'. Prove '..Said' where nothing that the law and all that it calls make is longer than what came in: it says more and counts as full. Else prove '..UptoSaid'. A law counts once. -/
mutual
def uptoBulk {H : Type} : DataW H → Nat
  | .lit (.string bytes) => bytes.length + 1
  | .lit _ => 1
  | .nil => 1
  | .ptr d => uptoBulk d + 1
  | .slice elems spare => uptoBulkAll elems + uptoBulkAll spare + 1
  | .agg parts => uptoBulkAll parts + 1
  | .iface _ d => uptoBulk d + 1
  | .map entries => uptoBulkEntries entries + 1
  | .held _ => 1
def uptoBulkAll {H : Type} : List (DataW H) → Nat
  | [] => 0
  | d :: r => uptoBulk d + uptoBulkAll r
def uptoBulkEntries {H : Type} : List (Lit × DataW H) → Nat
  | [] => 0
  | x :: r => uptoBulkEntry x + uptoBulkEntries r
def uptoBulkEntry {H : Type} : Lit × DataW H → Nat
  | (.string bytes, d) => bytes.length + uptoBulk d + 1
  | (_, d) => uptoBulk d + 1
 end
def uptoSmall : (H : Type) → List (DataW H) → Bool := fun _ ds => decide (uptoBulkAll ds ≤ 1048576)
def OpenSpec.upto (s : _root_.Go.ChangeSpec) : _root_.Go.OpenSpec := { _root_.Go.OpenSpec.ofChange s with cond := some uptoSmall }

/-- 'complinelaw12.InstOwes', WHERE WHAT IT READS IS OF BULK AT MOST 1048576: true; the input reads as it did. -/
def instOwesUptoRow : OpenClaim := { program := "ytkcecijepbceiaa", sum := "e6cef634148ce1eff946d6136b2e9df697cba6dd7fbde947d304f4a46410680f", func := "compline/complinelaw12.InstOwes", spec := "instOwes", named := ["math/bits.divideError", "math/bits.overflowError"], apart := false, narrowed := true }
def InstOwesUptoSaid : Prop := instOwesUptoRow.holds Try.pinned (OpenSpec.upto instOwesSpec)

/-- 'complinelaw12.InstParts', WHERE WHAT IT READS IS OF BULK AT MOST 1048576: true; the input reads as it did. -/
def instPartsUptoRow : OpenClaim := { program := "ytkcecijepbceiaa", sum := "e6cef634148ce1eff946d6136b2e9df697cba6dd7fbde947d304f4a46410680f", func := "compline/complinelaw12.InstParts", spec := "instParts", named := ["math/bits.divideError", "math/bits.overflowError"], apart := false, narrowed := true }
def InstPartsUptoSaid : Prop := instPartsUptoRow.holds Try.pinned (OpenSpec.upto instPartsSpec)

/-- 'complinelaw12.InstShares', WHERE WHAT IT READS IS OF BULK AT MOST 1048576: true; the input reads as it did. -/
def instSharesUptoRow : OpenClaim := { program := "ytkcecijepbceiaa", sum := "e6cef634148ce1eff946d6136b2e9df697cba6dd7fbde947d304f4a46410680f", func := "compline/complinelaw12.InstShares", spec := "instShares", named := ["math/bits.divideError", "math/bits.overflowError"], apart := false, narrowed := true }
def InstSharesUptoSaid : Prop := instSharesUptoRow.holds Try.pinned (OpenSpec.upto instSharesSpec)

/-- 'complinelaw12.InstBytes', WHERE WHAT IT READS IS OF BULK AT MOST 1048576: true; the input reads as it did. -/
def instBytesUptoRow : OpenClaim := { program := "ytkcecijepbceiaa", sum := "e6cef634148ce1eff946d6136b2e9df697cba6dd7fbde947d304f4a46410680f", func := "compline/complinelaw12.InstBytes", spec := "instBytes", named := ["math/bits.divideError", "math/bits.overflowError"], apart := false, narrowed := true }
def InstBytesUptoSaid : Prop := instBytesUptoRow.holds Try.pinned (OpenSpec.upto instBytesSpec)

/-- 'complinelaw12.InstBack', WHERE WHAT IT READS IS OF BULK AT MOST 1048576: true; the input reads as it did. -/
def instBackUptoRow : OpenClaim := { program := "ytkcecijepbceiaa", sum := "e6cef634148ce1eff946d6136b2e9df697cba6dd7fbde947d304f4a46410680f", func := "compline/complinelaw12.InstBack", spec := "instBack", named := ["math/bits.divideError", "math/bits.overflowError"], apart := false, narrowed := true }
def InstBackUptoSaid : Prop := instBackUptoRow.holds Try.pinned (OpenSpec.upto instBackSpec)

/-- 'complinelaw12.InstChecks', WHERE WHAT IT READS IS OF BULK AT MOST 1048576: true; the input reads as it did. -/
def instChecksUptoRow : OpenClaim := { program := "ytkcecijepbceiaa", sum := "e6cef634148ce1eff946d6136b2e9df697cba6dd7fbde947d304f4a46410680f", func := "compline/complinelaw12.InstChecks", spec := "instChecks", inPlace := ["maps.clone"], unfollowed := true, recurses := true, named := ["math/bits.divideError", "math/bits.overflowError"], apart := false, narrowed := true }
def InstChecksUptoSaid : Prop := instChecksUptoRow.holds Try.pinned (OpenSpec.upto instChecksSpec)

/-- 'complinelaw12.InstRights', WHERE WHAT IT READS IS OF BULK AT MOST 1048576: true; the input reads as it did. -/
def instRightsUptoRow : OpenClaim := { program := "ytkcecijepbceiaa", sum := "e6cef634148ce1eff946d6136b2e9df697cba6dd7fbde947d304f4a46410680f", func := "compline/complinelaw12.InstRights", spec := "instRights", inPlace := ["maps.clone"], unfollowed := true, recurses := true, named := ["math/bits.divideError", "math/bits.overflowError"], apart := false, narrowed := true }
def InstRightsUptoSaid : Prop := instRightsUptoRow.holds Try.pinned (OpenSpec.upto instRightsSpec)

end Rows
end Go.Proofs.Ytkcecijepbceiaa
