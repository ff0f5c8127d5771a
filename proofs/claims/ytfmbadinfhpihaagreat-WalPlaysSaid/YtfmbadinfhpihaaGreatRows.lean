/-
  No cell of these rows narrows 'for every input' (looked for: loops, veiled, ifaces, maps, wideKeys, modest, calm, conditions, laid).
  DERIVED. THE GIVEN ROWS OF THIS SEAT. 6 by the template 'for every input the law returns true; each argument reads behind the call as it read before'; 0 by the template 'total and deterministic' (their statements: YtfmbadinfhpihaaGreatTotals.lean).
  GIVEN WITH THE SEED: the statements are not yours to turn. If you find one false, say at which input.
  Laid BY PROGRAM, IN A SANDBOX (cutbox-rows.mjs): the forced cells as the released guide's own fill.sh prints them over the translation 65e13bd284f0a112… (all of the seat's roots in one cut). By AI agents, Wed Nov 11 2026. No macro, syntax, notation, axiom, sorry.
-/
import Derived.Test.YtfmbadinfhpihaaGreatChecked
import GoSem.Claim
import GoSem.ClaimJoined
import GoSem.ClaimMapViews
import Derived.JoinedTies
import Derived.KernelRfl
namespace Go.Proofs.YtfmbadinfhpihaaGreat
/- THE CELL 'sum', in the pinned program and in every row, IS THE sha256 OF THE DUMP (.gsa) THAT YtfmbadinfhpihaaGreatProg.lean LOADS. Nothing in Lean hashes anything: it is a label: what it is worth is what the hold of that sum in a sandbox is worth. -/
noncomputable def Tryz.pinned : Pinned := { name := "ytfmbadinfhpihaagreat", sum := "65e13bd284f0a1127b12356de6cf5032556e9f5de839daa92f979647edff7506", checked := Tryz.checked }
namespace Rows
def none {H : Type} : Left H := { results := [], args := [] }

/-- 'complinelaw6.WalNone': WHATEVER THE INPUT: true; the input reads as it did. -/
def walNoneSpec : ChangeSpec := { name := "walNone", fn := fun _ => fun
  | [d1, d2] => { results := [.lit (.bool true)], args := [d1, d2] }
  | _ => none }
def walNoneRow : OpenClaim := { program := "ytfmbadinfhpihaagreat", sum := "65e13bd284f0a1127b12356de6cf5032556e9f5de839daa92f979647edff7506", func := "compline/complinelaw6.WalNone", spec := "walNone", inPlace := ["internal/abi.NoEscape"], unfollowed := true, recurses := true, apart := false }
def WalNoneSaid : Prop := walNoneRow.holds Tryz.pinned (OpenSpec.ofChange walNoneSpec)

/-- ITS FALSE NEIGHBOUR: 'it returns false'. Refute it at one input. -/
def walNoneWrong : ChangeSpec := { name := "walNone", fn := fun _ => fun
  | [d1, d2] => { results := [.lit (.bool false)], args := [d1, d2] }
  | _ => none }
def WalNoneWrongFalsely : Prop := walNoneRow.holds Tryz.pinned (OpenSpec.ofChange walNoneWrong)

/-- 'complinelaw6.WalMends': WHATEVER THE INPUT: true; the input reads as it did. -/
def walMendsSpec : ChangeSpec := { name := "walMends", fn := fun _ => fun
  | [d1, d2, d3] => { results := [.lit (.bool true)], args := [d1, d2, d3] }
  | _ => none }
def walMendsRow : OpenClaim := { program := "ytfmbadinfhpihaagreat", sum := "65e13bd284f0a1127b12356de6cf5032556e9f5de839daa92f979647edff7506", func := "compline/complinelaw6.WalMends", spec := "walMends", inPlace := ["internal/abi.NoEscape"], unfollowed := true, recurses := true, apart := false }
def WalMendsSaid : Prop := walMendsRow.holds Tryz.pinned (OpenSpec.ofChange walMendsSpec)

/-- ITS FALSE NEIGHBOUR: 'it returns false'. Refute it at one input. -/
def walMendsWrong : ChangeSpec := { name := "walMends", fn := fun _ => fun
  | [d1, d2, d3] => { results := [.lit (.bool false)], args := [d1, d2, d3] }
  | _ => none }
def WalMendsWrongFalsely : Prop := walMendsRow.holds Tryz.pinned (OpenSpec.ofChange walMendsWrong)

/-- 'complinelaw6.WalEmpty': WHATEVER THE INPUT: true; the input reads as it did. -/
def walEmptySpec : ChangeSpec := { name := "walEmpty", fn := fun _ => fun
  | [d1, d2] => { results := [.lit (.bool true)], args := [d1, d2] }
  | _ => none }
def walEmptyRow : OpenClaim := { program := "ytfmbadinfhpihaagreat", sum := "65e13bd284f0a1127b12356de6cf5032556e9f5de839daa92f979647edff7506", func := "compline/complinelaw6.WalEmpty", spec := "walEmpty", inPlace := ["internal/abi.NoEscape"], unfollowed := true, recurses := true, apart := false }
def WalEmptySaid : Prop := walEmptyRow.holds Tryz.pinned (OpenSpec.ofChange walEmptySpec)

/-- ITS FALSE NEIGHBOUR: 'it returns false'. Refute it at one input. -/
def walEmptyWrong : ChangeSpec := { name := "walEmpty", fn := fun _ => fun
  | [d1, d2] => { results := [.lit (.bool false)], args := [d1, d2] }
  | _ => none }
def WalEmptyWrongFalsely : Prop := walEmptyRow.holds Tryz.pinned (OpenSpec.ofChange walEmptyWrong)

/-- 'complinelaw6.WalWhole': WHATEVER THE INPUT: true; the input reads as it did. -/
def walWholeSpec : ChangeSpec := { name := "walWhole", fn := fun _ => fun
  | [d1, d2, d3] => { results := [.lit (.bool true)], args := [d1, d2, d3] }
  | _ => none }
def walWholeRow : OpenClaim := { program := "ytfmbadinfhpihaagreat", sum := "65e13bd284f0a1127b12356de6cf5032556e9f5de839daa92f979647edff7506", func := "compline/complinelaw6.WalWhole", spec := "walWhole", inPlace := ["internal/abi.NoEscape"], unfollowed := true, recurses := true, apart := false }
def WalWholeSaid : Prop := walWholeRow.holds Tryz.pinned (OpenSpec.ofChange walWholeSpec)

/-- ITS FALSE NEIGHBOUR: 'it returns false'. Refute it at one input. -/
def walWholeWrong : ChangeSpec := { name := "walWhole", fn := fun _ => fun
  | [d1, d2, d3] => { results := [.lit (.bool false)], args := [d1, d2, d3] }
  | _ => none }
def WalWholeWrongFalsely : Prop := walWholeRow.holds Tryz.pinned (OpenSpec.ofChange walWholeWrong)

/-- 'complinelaw6.WalBroken': WHATEVER THE INPUT: true; the input reads as it did. -/
def walBrokenSpec : ChangeSpec := { name := "walBroken", fn := fun _ => fun
  | [d1, d2, d3] => { results := [.lit (.bool true)], args := [d1, d2, d3] }
  | _ => none }
def walBrokenRow : OpenClaim := { program := "ytfmbadinfhpihaagreat", sum := "65e13bd284f0a1127b12356de6cf5032556e9f5de839daa92f979647edff7506", func := "compline/complinelaw6.WalBroken", spec := "walBroken", inPlace := ["internal/abi.NoEscape"], unfollowed := true, recurses := true, apart := false }
def WalBrokenSaid : Prop := walBrokenRow.holds Tryz.pinned (OpenSpec.ofChange walBrokenSpec)

/-- ITS FALSE NEIGHBOUR: 'it returns false'. Refute it at one input. -/
def walBrokenWrong : ChangeSpec := { name := "walBroken", fn := fun _ => fun
  | [d1, d2, d3] => { results := [.lit (.bool false)], args := [d1, d2, d3] }
  | _ => none }
def WalBrokenWrongFalsely : Prop := walBrokenRow.holds Tryz.pinned (OpenSpec.ofChange walBrokenWrong)

/-- 'complinelaw6.WalPlays': WHATEVER THE INPUT: true; the input reads as it did. -/
def walPlaysSpec : ChangeSpec := { name := "walPlays", fn := fun _ => fun
  | [d1, d2, d3] => { results := [.lit (.bool true)], args := [d1, d2, d3] }
  | _ => none }
def walPlaysRow : OpenClaim := { program := "ytfmbadinfhpihaagreat", sum := "65e13bd284f0a1127b12356de6cf5032556e9f5de839daa92f979647edff7506", func := "compline/complinelaw6.WalPlays", spec := "walPlays", inPlace := ["internal/abi.NoEscape"], unfollowed := true, recurses := true, apart := false }
def WalPlaysSaid : Prop := walPlaysRow.holds Tryz.pinned (OpenSpec.ofChange walPlaysSpec)

/-- ITS FALSE NEIGHBOUR: 'it returns false'. Refute it at one input. -/
def walPlaysWrong : ChangeSpec := { name := "walPlays", fn := fun _ => fun
  | [d1, d2, d3] => { results := [.lit (.bool false)], args := [d1, d2, d3] }
  | _ => none }
def WalPlaysWrongFalsely : Prop := walPlaysRow.holds Tryz.pinned (OpenSpec.ofChange walPlaysWrong)

/- THE SECOND FORM. 'bulk': how many values and letters a reading holds, each counted each time it is reached (what is shared counts as often as it is met; a slice's spare places count too). A statement '..UptoSaid' is the law's where the arguments, and the package variables that the reading takes, are together of bulk at most 1048576: NARROWER than '..Said'. Prove '..Said' where nothing that the law and all that it calls make is longer than what came in: it says more and counts as full. Else prove '..UptoSaid'. A law counts once. -/
mutual
def uptoBulk {H : Type} : DataW H → Nat
  | .lit (.string bytes) => bytes.length + 1
  | .lit _ => 1
  | .nil => 1
  | .ptr d => uptoBulk d + 1
  | .slice elems spare => uptoBulkAll elems + uptoBulkAll spare + 1
  | .agg parts => uptoBulkAll parts + 1
  | .iface _ d => uptoBulk d + 1
  | .map entries => uptoBulkEntries entries + 1
  | .held _ => 1
def uptoBulkAll {H : Type} : List (DataW H) → Nat
  | [] => 0
  | d :: r => uptoBulk d + uptoBulkAll r
def uptoBulkEntries {H : Type} : List (Lit × DataW H) → Nat
  | [] => 0
  | x :: r => uptoBulkEntry x + uptoBulkEntries r
def uptoBulkEntry {H : Type} : Lit × DataW H → Nat
  | (.string bytes, d) => bytes.length + uptoBulk d + 1
  | (_, d) => uptoBulk d + 1
 end
def uptoSmall : (H : Type) → List (DataW H) → Bool := fun _ ds => decide (uptoBulkAll ds ≤ 1048576)
def OpenSpec.upto (s : _root_.Go.ChangeSpec) : _root_.Go.OpenSpec := { _root_.Go.OpenSpec.ofChange s with cond := some uptoSmall }

/-- 'complinelaw6.WalNone', WHERE WHAT IT READS IS OF BULK AT MOST 1048576: true; the input reads as it did. -/
def walNoneUptoRow : OpenClaim := { program := "ytfmbadinfhpihaagreat", sum := "65e13bd284f0a1127b12356de6cf5032556e9f5de839daa92f979647edff7506", func := "compline/complinelaw6.WalNone", spec := "walNone", inPlace := ["internal/abi.NoEscape"], unfollowed := true, recurses := true, apart := false, narrowed := true }
def WalNoneUptoSaid : Prop := walNoneUptoRow.holds Tryz.pinned (OpenSpec.upto walNoneSpec)

/-- 'complinelaw6.WalMends', WHERE WHAT IT READS IS OF BULK AT MOST 1048576: true; the input reads as it did. -/
def walMendsUptoRow : OpenClaim := { program := "ytfmbadinfhpihaagreat", sum := "65e13bd284f0a1127b12356de6cf5032556e9f5de839daa92f979647edff7506", func := "compline/complinelaw6.WalMends", spec := "walMends", inPlace := ["internal/abi.NoEscape"], unfollowed := true, recurses := true, apart := false, narrowed := true }
def WalMendsUptoSaid : Prop := walMendsUptoRow.holds Tryz.pinned (OpenSpec.upto walMendsSpec)

/-- 'complinelaw6.WalEmpty', WHERE WHAT IT READS IS OF BULK AT MOST 1048576: true; the input reads as it did. -/
def walEmptyUptoRow : OpenClaim := { program := "ytfmbadinfhpihaagreat", sum := "65e13bd284f0a1127b12356de6cf5032556e9f5de839daa92f979647edff7506", func := "compline/complinelaw6.WalEmpty", spec := "walEmpty", inPlace := ["internal/abi.NoEscape"], unfollowed := true, recurses := true, apart := false, narrowed := true }
def WalEmptyUptoSaid : Prop := walEmptyUptoRow.holds Tryz.pinned (OpenSpec.upto walEmptySpec)

/-- 'complinelaw6.WalWhole', WHERE WHAT IT READS IS OF BULK AT MOST 1048576: true; the input reads as it did. -/
def walWholeUptoRow : OpenClaim := { program := "ytfmbadinfhpihaagreat", sum := "65e13bd284f0a1127b12356de6cf5032556e9f5de839daa92f979647edff7506", func := "compline/complinelaw6.WalWhole", spec := "walWhole", inPlace := ["internal/abi.NoEscape"], unfollowed := true, recurses := true, apart := false, narrowed := true }
def WalWholeUptoSaid : Prop := walWholeUptoRow.holds Tryz.pinned (OpenSpec.upto walWholeSpec)

/-- 'complinelaw6.WalBroken', WHERE WHAT IT READS IS OF BULK AT MOST 1048576: true; the input reads as it did. -/
def walBrokenUptoRow : OpenClaim := { program := "ytfmbadinfhpihaagreat", sum := "65e13bd284f0a1127b12356de6cf5032556e9f5de839daa92f979647edff7506", func := "compline/complinelaw6.WalBroken", spec := "walBroken", inPlace := ["internal/abi.NoEscape"], unfollowed := true, recurses := true, apart := false, narrowed := true }
def WalBrokenUptoSaid : Prop := walBrokenUptoRow.holds Tryz.pinned (OpenSpec.upto walBrokenSpec)

/-- 'complinelaw6.WalPlays', WHERE WHAT IT READS IS OF BULK AT MOST 1048576: true; the input reads as it did. -/
def walPlaysUptoRow : OpenClaim := { program := "ytfmbadinfhpihaagreat", sum := "65e13bd284f0a1127b12356de6cf5032556e9f5de839daa92f979647edff7506", func := "compline/complinelaw6.WalPlays", spec := "walPlays", inPlace := ["internal/abi.NoEscape"], unfollowed := true, recurses := true, apart := false, narrowed := true }
def WalPlaysUptoSaid : Prop := walPlaysUptoRow.holds Tryz.pinned (OpenSpec.upto walPlaysSpec)

end Rows
end Go.Proofs.YtfmbadinfhpihaaGreat
