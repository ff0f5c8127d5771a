/-
  No cell of these rows narrows 'for every input' (looked for: loops, veiled, ifaces, maps, wideKeys, modest, calm, conditions, laid).
  DERIVED. THE GIVEN ROWS OF THIS SEAT. 2 by the template 'for every input the law returns true; each argument reads behind the call as it read before'; 0 by the template 'total and deterministic' (their statements: YtlniafpbkhkkaaaGreatTotals.lean).
  GIVEN WITH THE SEED: the statements are not yours to turn. If you find one false, say at which input.
  Laid BY PROGRAM, IN A SANDBOX (cutbox-rows.mjs): the forced cells as the released guide's own fill.sh prints them over the translation 995a0fd4473ad6fa… (all of the seat's roots in one cut). By AI agents, Wed Nov 11 2026. No macro, syntax, notation, axiom, sorry.
-/
import Derived.Test.YtlniafpbkhkkaaaGreatChecked
import GoSem.Claim
import GoSem.ClaimJoined
import GoSem.ClaimMapViews
import Derived.JoinedTies
import Derived.KernelRfl
namespace Go.Proofs.YtlniafpbkhkkaaaGreat
/- THE CELL 'sum', in the pinned program and in every row, IS THE sha256 OF THE DUMP (.gsa) THAT YtlniafpbkhkkaaaGreatProg.lean LOADS. Nothing in Lean hashes anything: it is a label: what it is worth is what the hold of that sum in a sandbox is worth. -/
noncomputable def Tryz.pinned : Pinned := { name := "ytlniafpbkhkkaaagreat", sum := "995a0fd4473ad6faf8b7559ddbae4602ab118e548504c0fc9664f9881ee776df", checked := Tryz.checked }
namespace Rows
def none {H : Type} : Left H := { results := [], args := [] }

/-- 'complinelaw2.NameTells': WHATEVER THE INPUT: true; the input reads as it did. -/
def nameTellsSpec : ChangeSpec := { name := "nameTells", fn := fun _ => fun
  | [d1, d2, d3] => { results := [.lit (.bool true)], args := [d1, d2, d3] }
  | _ => none }
def nameTellsRow : OpenClaim := { program := "ytlniafpbkhkkaaagreat", sum := "995a0fd4473ad6faf8b7559ddbae4602ab118e548504c0fc9664f9881ee776df", func := "compline/complinelaw2.NameTells", spec := "nameTells", unfollowed := true, recurses := true, apart := false }
def NameTellsSaid : Prop := nameTellsRow.holds Tryz.pinned (OpenSpec.ofChange nameTellsSpec)

/-- ITS FALSE NEIGHBOUR: 'it returns false'. Refute it at one input. -/
def nameTellsWrong : ChangeSpec := { name := "nameTells", fn := fun _ => fun
  | [d1, d2, d3] => { results := [.lit (.bool false)], args := [d1, d2, d3] }
  | _ => none }
def NameTellsWrongFalsely : Prop := nameTellsRow.holds Tryz.pinned (OpenSpec.ofChange nameTellsWrong)

/-- 'complinelaw2.NameSets': WHATEVER THE INPUT: true; the input reads as it did. -/
def nameSetsSpec : ChangeSpec := { name := "nameSets", fn := fun _ => fun
  | [d1, d2, d3, d4, d5] => { results := [.lit (.bool true)], args := [d1, d2, d3, d4, d5] }
  | _ => none }
def nameSetsRow : OpenClaim := { program := "ytlniafpbkhkkaaagreat", sum := "995a0fd4473ad6faf8b7559ddbae4602ab118e548504c0fc9664f9881ee776df", func := "compline/complinelaw2.NameSets", spec := "nameSets", unfollowed := true, recurses := true, apart := false }
def NameSetsSaid : Prop := nameSetsRow.holds Tryz.pinned (OpenSpec.ofChange nameSetsSpec)

/-- ITS FALSE NEIGHBOUR: 'it returns false'. Refute it at one input. -/
def nameSetsWrong : ChangeSpec := { name := "nameSets", fn := fun _ => fun
  | [d1, d2, d3, d4, d5] => { results := [.lit (.bool false)], args := [d1, d2, d3, d4, d5] }
  | _ => none }
def NameSetsWrongFalsely : Prop := nameSetsRow.holds Tryz.pinned (OpenSpec.ofChange nameSetsWrong)

/- THE SECOND FORM. 'bulk': how many values and letters a reading holds, each counted each time it is reached (what is shared counts as often as it is met; a slice's spare places count too). A statement '..UptoSaid' is the law's where the arguments, and the package variables that the reading takes, are together of bulk at most 1048576: NARROWER than '..Said'. Prove '..Said' where nothing that the law and all that it calls make is longer than what came in: it says more and counts as full. Else prove '..UptoSaid'. A law counts once. -/
mutual
def uptoBulk {H : Type} : DataW H → Nat
  | .lit (.string bytes) => bytes.length + 1
  | .lit _ => 1
  | .nil => 1
  | .ptr d => uptoBulk d + 1
  | .slice elems spare => uptoBulkAll elems + uptoBulkAll spare + 1
  | .agg parts => uptoBulkAll parts + 1
  | .iface _ d => uptoBulk d + 1
  | .map entries => uptoBulkEntries entries + 1
  | .held _ => 1
def uptoBulkAll {H : Type} : List (DataW H) → Nat
  | [] => 0
  | d :: r => uptoBulk d + uptoBulkAll r
def uptoBulkEntries {H : Type} : List (Lit × DataW H) → Nat
  | [] => 0
  | x :: r => uptoBulkEntry x + uptoBulkEntries r
def uptoBulkEntry {H : Type} : Lit × DataW H → Nat
  | (.string bytes, d) => bytes.length + uptoBulk d + 1
  | (_, d) => uptoBulk d + 1
 end
def uptoSmall : (H : Type) → List (DataW H) → Bool := fun _ ds => decide (uptoBulkAll ds ≤ 1048576)
def OpenSpec.upto (s : _root_.Go.ChangeSpec) : _root_.Go.OpenSpec := { _root_.Go.OpenSpec.ofChange s with cond := some uptoSmall }

/-- 'complinelaw2.NameTells', WHERE WHAT IT READS IS OF BULK AT MOST 1048576: true; the input reads as it did. -/
def nameTellsUptoRow : OpenClaim := { program := "ytlniafpbkhkkaaagreat", sum := "995a0fd4473ad6faf8b7559ddbae4602ab118e548504c0fc9664f9881ee776df", func := "compline/complinelaw2.NameTells", spec := "nameTells", unfollowed := true, recurses := true, apart := false, narrowed := true }
def NameTellsUptoSaid : Prop := nameTellsUptoRow.holds Tryz.pinned (OpenSpec.upto nameTellsSpec)

/-- 'complinelaw2.NameSets', WHERE WHAT IT READS IS OF BULK AT MOST 1048576: true; the input reads as it did. -/
def nameSetsUptoRow : OpenClaim := { program := "ytlniafpbkhkkaaagreat", sum := "995a0fd4473ad6faf8b7559ddbae4602ab118e548504c0fc9664f9881ee776df", func := "compline/complinelaw2.NameSets", spec := "nameSets", unfollowed := true, recurses := true, apart := false, narrowed := true }
def NameSetsUptoSaid : Prop := nameSetsUptoRow.holds Tryz.pinned (OpenSpec.upto nameSetsSpec)

end Rows
end Go.Proofs.YtlniafpbkhkkaaaGreat
