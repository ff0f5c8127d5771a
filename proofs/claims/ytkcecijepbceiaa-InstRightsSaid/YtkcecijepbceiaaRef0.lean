/-
  Chapter 9's three kinds of records: parties, accounts, assets; a map of them that may be nil.
  Conditions: as each lemma says.
-/
import Derived.WalkKit
import Derived.Lib.Hide
import Derived.Deep.QuietTactic
import Derived.BigQuiet
import Derived.Deep.DeepCutAuto
import Derived.Deep.RegionHeld3
import Derived.KernelRfl
import Derived.WalkSpells
import Derived.Test.YtkcecijepbceiaaRecPlain
import Derived.Test.YtkcecijepbceiaaClone
import Derived.Test.YtkcecijepbceiaaMv
import Derived.Test.YtkcecijepbceiaaRefCal
import Derived.Test.YtkcecijepbceiaaRefName
namespace Go.Proofs.Ytkcecijepbceiaa
open Go.RowKit Go.Maps

theorem keyT : Keyed Try.prog 9 := string_keyed Try.underlying9
theorem key_str {s : ByteArray} (h : s.size ≤ 9223372036854775807) : keyOf Try.prog 9 (.string s) = some (kS s) := by
  unfold keyOf kS
  simp [Try.underlying9, mapKey]
  unfold maxLen
  exact h
structure Party where
  name : ByteArray
  limit : Int
structure Account where
  name : ByteArray
  party : ByteArray
structure Asset where
  name : ByteArray
  cash : Bool
  pledge : Bool
  unit : Int
  least : Int
  price : Int
  cut : Int
  close : Int
instance : Kd Party where
  val x := .agg #[.string x.name, .int .i64 x.limit]
  dat x := .agg [.lit (.string x.name.data.toList), .lit (.int .i64 x.limit)]
  un D := match D with
    | .agg [.lit (.string l), .lit (.int _ n)] => ⟨⟨l.toArray⟩, n⟩
    | _ => ⟨⟨#[]⟩, 0⟩
  key x := x.name
  ren x s := ⟨s, x.limit⟩
  zero := ⟨⟨#[]⟩, 0⟩
  E v := match v with
    | .agg ⟨[.string s, .int .i64 n]⟩ => some (.agg [.lit (.string s.data.toList), .lit (.int .i64 n)], [])
    | _ => none
  un_dat x := by
    obtain ⟨⟨⟨l⟩⟩, n⟩ := x
    rfl
  E_mk x := rfl
  E_inv v z h := by
    split at h
    · injection h with h
      rename_i s n
      exact ⟨⟨s, n⟩, rfl, h.symm⟩
    · cases h
instance : Kd Account where
  val x := .agg #[.string x.name, .string x.party]
  dat x := .agg [.lit (.string x.name.data.toList), .lit (.string x.party.data.toList)]
  un D := match D with
    | .agg [.lit (.string l), .lit (.string m)] => ⟨⟨l.toArray⟩, ⟨m.toArray⟩⟩
    | _ => ⟨⟨#[]⟩, ⟨#[]⟩⟩
  key x := x.name
  ren x s := ⟨s, x.party⟩
  zero := ⟨⟨#[]⟩, ⟨#[]⟩⟩
  E v := match v with
    | .agg ⟨[.string s, .string n]⟩ => some (.agg [.lit (.string s.data.toList), .lit (.string n.data.toList)], [])
    | _ => none
  un_dat x := by
    obtain ⟨⟨⟨l⟩⟩, ⟨⟨m⟩⟩⟩ := x
    rfl
  E_mk x := rfl
  E_inv v z h := by
    split at h
    · injection h with h
      rename_i s n
      exact ⟨⟨s, n⟩, rfl, h.symm⟩
    · cases h
instance : Kd Asset where
  val x := .agg #[.string x.name, .bool x.cash, .bool x.pledge, .int .i64 x.unit, .int .i64 x.least, .int .i64 x.price, .int .i64 x.cut, .int .i64 x.close]
  dat x := .agg [.lit (.string x.name.data.toList), .lit (.bool x.cash), .lit (.bool x.pledge), .lit (.int .i64 x.unit), .lit (.int .i64 x.least), .lit (.int .i64 x.price), .lit (.int .i64 x.cut), .lit (.int .i64 x.close)]
  un D := match D with
    | .agg [.lit (.string l), .lit (.bool a), .lit (.bool b), .lit (.int _ u), .lit (.int _ v), .lit (.int _ p), .lit (.int _ c), .lit (.int _ d)] => ⟨⟨l.toArray⟩, a, b, u, v, p, c, d⟩
    | _ => ⟨⟨#[]⟩, false, false, 0, 0, 0, 0, 0⟩
  key x := x.name
  ren x s := ⟨s, x.cash, x.pledge, x.unit, x.least, x.price, x.cut, x.close⟩
  zero := ⟨⟨#[]⟩, false, false, 0, 0, 0, 0, 0⟩
  E v := match v with
    | .agg ⟨[.string s, .bool a, .bool b, .int .i64 u, .int .i64 v, .int .i64 p, .int .i64 c, .int .i64 d]⟩ => some (.agg [.lit (.string s.data.toList), .lit (.bool a), .lit (.bool b), .lit (.int .i64 u), .lit (.int .i64 v), .lit (.int .i64 p), .lit (.int .i64 c), .lit (.int .i64 d)], [])
    | _ => none
  un_dat x := by
    obtain ⟨⟨⟨l⟩⟩, a, b, u, v, p, c, d⟩ := x
    rfl
  E_mk x := rfl
  E_inv v z h := by
    split at h
    · injection h with h
      rename_i s a b u v p c d
      exact ⟨⟨s, a, b, u, v, p, c, d⟩, rfl, h.symm⟩
    · cases h

/-- A map of records, perhaps nil. -/
def MapAt (α : Type) [Kd α] (v : Value) (D : DataW Unit) (w : World) : Prop :=
  (v = .map none ∧ D = .map []) ∨ ∃ b, v = .map (some b) ∧ w.ownsMap Try.prog 9 (Kd.E α) b (Maps.size D) D
section
variable {α : Type} [Kd α]
theorem own_tight {w : World} {b n : Nat} {D : DataW Unit} (h : w.ownsMap Try.prog 9 (Kd.E α) b n D) : w.ownsMap Try.prog 9 (Kd.E α) b (Maps.size D) D := by
  obtain ⟨es, clock, hb, F, hs, hD⟩ := h
  refine ⟨es, clock, hb, F, ?_, hD⟩
  rw [hD, size_eq, length_read]
  exact Nat.le_refl _
theorem own_keep {w w' : World} {b n : Nat} {D : DataW Unit} (h : w.ownsMap Try.prog 9 (Kd.E α) b n D) (hb : w'.heap[b]? = w.heap[b]?) : w'.ownsMap Try.prog 9 (Kd.E α) b n D := by
  obtain ⟨es, clock, h1, h2⟩ := h
  exact ⟨es, clock, hb.trans h1, h2⟩
theorem look_form {D : DataW Unit} (hg : GoodR α D) (s : ByteArray) {v : Value} {ps : List MemPlace} (h : Kd.E α v = some (D.atKey (kS s) (Kd.dat (Kd.zero : α)), ps)) : v = Kd.val (recAt α D s) := by
  rw [recAt_form hg s] at h
  obtain ⟨x, rfl, hz⟩ := Kd.E_inv v _ h
  injection hz with h1 _
  rw [← dat_inj h1]
/-- How a map is read at a name, with the answer whether it is there. -/
theorem run_look_ok {w : World} {b n : Nat} {D : DataW Unit} {mt et : TypeId} (hmt : Try.prog.underlying mt = some (.map 9 et)) (hz : (zeroValue et).run Try.prog w = .ok (Kd.val (Kd.zero : α)) w)
    (h : w.ownsMap Try.prog 9 (Kd.E α) b n D) (hg : GoodR α D) {s : ByteArray} (hs : s.size ≤ 9223372036854775807) :
    (Instr.lookup mt (.map (some b)) (.string s) true).run Try.prog w = .ok (.tuple #[Kd.val (recAt α D s), .bool (hasS D s)]) w := by
  obtain ⟨v, ps, hrun, hv⟩ := h.look_ok keyT hmt hz (Kd.E_mk (Kd.zero : α)) (key_str hs)
  rw [look_form hg s hv] at hrun
  exact hrun
theorem run_look {w : World} {b n : Nat} {D : DataW Unit} {mt et : TypeId} (hmt : Try.prog.underlying mt = some (.map 9 et)) (hz : (zeroValue et).run Try.prog w = .ok (Kd.val (Kd.zero : α)) w)
    (h : w.ownsMap Try.prog 9 (Kd.E α) b n D) (hg : GoodR α D) {s : ByteArray} (hs : s.size ≤ 9223372036854775807) :
    (Instr.lookup mt (.map (some b)) (.string s) false).run Try.prog w = .ok (Kd.val (recAt α D s)) w := by
  obtain ⟨v, ps, hrun, hv⟩ := h.lookup keyT hmt hz (Kd.E_mk (Kd.zero : α)) (key_str hs)
  rw [look_form hg s hv] at hrun
  exact hrun
theorem MapAt.below {v : Value} {D : DataW Unit} {w w' : World} (h : MapAt α v D w) (hb : Below w.heap.size w w') : MapAt α v D w' := by
  rcases h with h | ⟨b, h1, h2⟩
  · exact .inl h
  · exact .inr ⟨b, h1, own_keep h2 (hb.block b h2.lt)⟩
end
theorem zeroP (w : World) : (zeroValue 130).run Try.prog w = .ok (Kd.val (Kd.zero : Party)) w := by kernel_rfl
theorem zeroC (w : World) : (zeroValue 134).run Try.prog w = .ok (Kd.val (Kd.zero : Account)) w := by kernel_rfl
theorem zeroS (w : World) : (zeroValue 138).run Try.prog w = .ok (Kd.val (Kd.zero : Asset)) w := by kernel_rfl
theorem map_nilP (w : World) (r : Option Nat) : (binOp .eql 71 (.map r) (.map none)).run Try.prog w = .ok (.bool r.isNone) w := run_eql_map_nil w _ _ _ r Try.underlying71
theorem map_nilC (w : World) (r : Option Nat) : (binOp .eql 72 (.map r) (.map none)).run Try.prog w = .ok (.bool r.isNone) w := run_eql_map_nil w _ _ _ r Try.underlying72
theorem map_nilS (w : World) (r : Option Nat) : (binOp .eql 73 (.map r) (.map none)).run Try.prog w = .ok (.bool r.isNone) w := run_eql_map_nil w _ _ _ r Try.underlying73
end Go.Proofs.Ytkcecijepbceiaa
