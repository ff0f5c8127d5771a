/-
 Package ref as contracts: how several records are added to a map of records.
 Conditions: the caller's memory stays.
-/
import Derived.WalkKit
import Derived.Lib.Hide
import Derived.Deep.QuietTactic
import Derived.BigQuiet
import Derived.Deep.DeepCutAuto
import Derived.Deep.RegionHeld3
import Derived.KernelRfl
import Derived.WalkSpells
import Derived.Test.YtnpkplegeddhcaaGreatClone
import Derived.Test.YtnpkplegeddhcaaGreatWords2
import Derived.Test.YtnpkplegeddhcaaGreatRefName
import Derived.Test.YtnpkplegeddhcaaGreatShelf2
import Derived.Outline
namespace Go.Proofs.YtnpkplegeddhcaaGreat
open Go.RowKit Go.Maps

theorem keyT : Keyed Tryz.prog 9 := string_keyed Tryz.underlying9
theorem key_str {s : ByteArray} (h : s.size ≤ 9223372036854775807) : keyOf Tryz.prog 9 (.string s) = some (kS s) := by
 unfold keyOf kS
 simp [Tryz.underlying9, mapKey]
 unfold maxLen
 exact h
structure Party where
 name : ByteArray
 limit : Int
structure Account where
 name : ByteArray
 party : ByteArray
structure Asset where
 name : ByteArray
 cash : Bool
 pledge : Bool
 unit : Int
 least : Int
 price : Int
 cut : Int
 close : Int
instance : Kd Party where
 val x := .agg #[.string x.name, .int .i64 x.limit]
 dat x := .agg [.lit (.string x.name.data.toList), .lit (.int .i64 x.limit)]
 un D := match D with
  | .agg [.lit (.string l), .lit (.int _ n)] => ⟨⟨l.toArray⟩, n⟩
  | _ => ⟨⟨#[]⟩, 0⟩
 key x := x.name
 ren x s := ⟨s, x.limit⟩
 zero := ⟨⟨#[]⟩, 0⟩
 E v := match v with
  | .agg ⟨[.string s, .int .i64 n]⟩ => some (.agg [.lit (.string s.data.toList), .lit (.int .i64 n)], [])
  | _ => none
 un_dat x := by
  obtain ⟨⟨⟨l⟩⟩, n⟩ := x
  rfl
 E_mk x := rfl
 E_inv v z h := by
  split at h
  ·injection h with h
   rename_i s n
   exact ⟨⟨s, n⟩, rfl, h.symm⟩
  ·cases h
instance : Kd Account where
 val x := .agg #[.string x.name, .string x.party]
 dat x := .agg [.lit (.string x.name.data.toList), .lit (.string x.party.data.toList)]
 un D := match D with
  | .agg [.lit (.string l), .lit (.string m)] => ⟨⟨l.toArray⟩, ⟨m.toArray⟩⟩
  | _ => ⟨⟨#[]⟩, ⟨#[]⟩⟩
 key x := x.name
 ren x s := ⟨s, x.party⟩
 zero := ⟨⟨#[]⟩, ⟨#[]⟩⟩
 E v := match v with
  | .agg ⟨[.string s, .string n]⟩ => some (.agg [.lit (.string s.data.toList), .lit (.string n.data.toList)], [])
  | _ => none
 un_dat x := by
  obtain ⟨⟨⟨l⟩⟩, ⟨⟨m⟩⟩⟩ := x
  rfl
 E_mk x := rfl
 E_inv v z h := by
  split at h
  ·injection h with h
   rename_i s n
   exact ⟨⟨s, n⟩, rfl, h.symm⟩
  ·cases h
instance : Kd Asset where
 val x := .agg #[.string x.name, .bool x.cash, .bool x.pledge, .int .i64 x.unit, .int .i64 x.least, .int .i64 x.price, .int .i64 x.cut, .int .i64 x.close]
 dat x := .agg [.lit (.string x.name.data.toList), .lit (.bool x.cash), .lit (.bool x.pledge), .lit (.int .i64 x.unit), .lit (.int .i64 x.least), .lit (.int .i64 x.price), .lit (.int .i64 x.cut), .lit (.int .i64 x.close)]
 un D := match D with
  | .agg [.lit (.string l), .lit (.bool a), .lit (.bool b), .lit (.int _ u), .lit (.int _ v), .lit (.int _ p), .lit (.int _ c), .lit (.int _ d)] => ⟨⟨l.toArray⟩, a, b, u, v, p, c, d⟩
  | _ => ⟨⟨#[]⟩, false, false, 0, 0, 0, 0, 0⟩
 key x := x.name
 ren x s := ⟨s, x.cash, x.pledge, x.unit, x.least, x.price, x.cut, x.close⟩
 zero := ⟨⟨#[]⟩, false, false, 0, 0, 0, 0, 0⟩
 E v := match v with
  | .agg ⟨[.string s, .bool a, .bool b, .int .i64 u, .int .i64 v, .int .i64 p, .int .i64 c, .int .i64 d]⟩ => some (.agg [.lit (.string s.data.toList), .lit (.bool a), .lit (.bool b), .lit (.int .i64 u), .lit (.int .i64 v), .lit (.int .i64 p), .lit (.int .i64 c), .lit (.int .i64 d)], [])
  | _ => none
 un_dat x := by
  obtain ⟨⟨⟨l⟩⟩, a, b, u, v, p, c, d⟩ := x
  rfl
 E_mk x := rfl
 E_inv v z h := by
  split at h
  ·injection h with h
   rename_i s a b u v p c d
   exact ⟨⟨s, a, b, u, v, p, c, d⟩, rfl, h.symm⟩
  ·cases h

/-- A map of records, perhaps nil. -/
def MapAt (α : Type) [Kd α] (v : Value) (D : DataW Unit) (w : World) : Prop :=
 (v = .map none ∧ D = .map []) ∨ ∃ b, v = .map (some b) ∧ w.ownsMap Tryz.prog 9 (Kd.E α) b (Maps.size D) D
section
variable {α : Type} [Kd α]
theorem own_tight {w : World} {b n : Nat} {D : DataW Unit} (h : w.ownsMap Tryz.prog 9 (Kd.E α) b n D) : w.ownsMap Tryz.prog 9 (Kd.E α) b (Maps.size D) D := by
 obtain ⟨es, clock, hb, F, hs, hD⟩ := h
 refine ⟨es, clock, hb, F, ?_, hD⟩
 rw [hD, size_eq, length_read]
 exact Nat.le_refl _
theorem own_keep {w w' : World} {b n : Nat} {D : DataW Unit} (h : w.ownsMap Tryz.prog 9 (Kd.E α) b n D) (hb : w'.heap[b]? = w.heap[b]?) : w'.ownsMap Tryz.prog 9 (Kd.E α) b n D := by
 obtain ⟨es, clock, h1, h2⟩ := h
 exact ⟨es, clock, hb.trans h1, h2⟩
theorem look_form {D : DataW Unit} (hg : GoodR α D) (s : ByteArray) {v : Value} {ps : List MemPlace} (h : Kd.E α v = some (D.atKey (kS s) (Kd.dat (Kd.zero : α)), ps)) : v = Kd.val (recAt α D s) := by
 rw [recAt_form hg s] at h
 obtain ⟨x, rfl, hz⟩ := Kd.E_inv v _ h
 injection hz with h1 _
 rw [← dat_inj h1]
/-- How a map is read at a name, with the answer whether it is there. -/
theorem run_look_ok {w : World} {b n : Nat} {D : DataW Unit} {mt et : TypeId} (hmt : Tryz.prog.underlying mt = some (.map 9 et)) (hz : (zeroValue et).run Tryz.prog w = .ok (Kd.val (Kd.zero : α)) w)
  (h : w.ownsMap Tryz.prog 9 (Kd.E α) b n D) (hg : GoodR α D) {s : ByteArray} (hs : s.size ≤ 9223372036854775807) :
  (Instr.lookup mt (.map (some b)) (.string s) true).run Tryz.prog w = .ok (.tuple #[Kd.val (recAt α D s), .bool (hasS D s)]) w := by
 obtain ⟨v, ps, hrun, hv⟩ := h.look_ok keyT hmt hz (Kd.E_mk (Kd.zero : α)) (key_str hs)
 rw [look_form hg s hv] at hrun
 exact hrun
theorem run_look {w : World} {b n : Nat} {D : DataW Unit} {mt et : TypeId} (hmt : Tryz.prog.underlying mt = some (.map 9 et)) (hz : (zeroValue et).run Tryz.prog w = .ok (Kd.val (Kd.zero : α)) w)
  (h : w.ownsMap Tryz.prog 9 (Kd.E α) b n D) (hg : GoodR α D) {s : ByteArray} (hs : s.size ≤ 9223372036854775807) :
  (Instr.lookup mt (.map (some b)) (.string s) false).run Tryz.prog w = .ok (Kd.val (recAt α D s)) w := by
 obtain ⟨v, ps, hrun, hv⟩ := h.lookup keyT hmt hz (Kd.E_mk (Kd.zero : α)) (key_str hs)
 rw [look_form hg s hv] at hrun
 exact hrun
theorem MapAt.below {v : Value} {D : DataW Unit} {w w' : World} (h : MapAt α v D w) (hb : Below w.heap.size w w') : MapAt α v D w' := by
 rcases h with h | ⟨b, h1, h2⟩
 ·exact .inl h
 ·exact .inr ⟨b, h1, own_keep h2 (hb.block b h2.lt)⟩
end
theorem zeroP (w : World) : (zeroValue 84).run Tryz.prog w = .ok (Kd.val (Kd.zero : Party)) w := by kernel_rfl
theorem zeroC (w : World) : (zeroValue 88).run Tryz.prog w = .ok (Kd.val (Kd.zero : Account)) w := by kernel_rfl
theorem zeroS (w : World) : (zeroValue 92).run Tryz.prog w = .ok (Kd.val (Kd.zero : Asset)) w := by kernel_rfl
theorem map_nilP (w : World) (r : Option Nat) : (binOp .eql 78 (.map r) (.map none)).run Tryz.prog w = .ok (.bool r.isNone) w := run_eql_map_nil w _ _ _ r Tryz.underlying78
theorem map_nilC (w : World) (r : Option Nat) : (binOp .eql 79 (.map r) (.map none)).run Tryz.prog w = .ok (.bool r.isNone) w := run_eql_map_nil w _ _ _ r Tryz.underlying79
theorem map_nilS (w : World) (r : Option Nat) : (binOp .eql 80 (.map r) (.map none)).run Tryz.prog w = .ok (.bool r.isNone) w := run_eql_map_nil w _ _ _ r Tryz.underlying80
end Go.Proofs.YtnpkplegeddhcaaGreat
namespace Go.Proofs.YtnpkplegeddhcaaGreat
open Go.RowKit Go.Maps

def inB (n a b : Int) : Bool := decide (a ≤ n ∧ n ≤ b)
theorem inB_yes {n a b : Int} : inB n a b = true ↔ a ≤ n ∧ n ≤ b := by simp [inB]
theorem inB_no {n a b : Int} : inB n a b = false ↔ ¬ (a ≤ n ∧ n ≤ b) := by simp [inB]
theorem in_any (n a b : Int) (w : World) : Calls Tryz.prog 55 #[.int .i64 n, .int .i64 a, .int .i64 b] w fun e w' => e = .returned (.bool (inB n a b)) ∧ w = w' := by
 by_cases h0 : a ≤ n
 ·by_cases h1 : n ≤ b
  ·rw [inB_yes.2 ⟨h0, h1⟩]
   go_enter Tryz.func55, Tryz.ntmps55
   go_wp2
   go_ret
   exact ⟨ret_bool (by first | rfl | simp | simp [h1]), rfl⟩
  ·rw [inB_no.2 (by omega)]
   have hd : decide (n ≤ b) = false := decide_eq_false h1
   go_enter Tryz.func55, Tryz.ntmps55
   go_wp2
   go_ret
   exact ⟨ret_bool (by first | rfl | simp), rfl⟩
 ·rw [inB_no.2 (by omega)]
  have hd : decide (a ≤ n) = false := decide_eq_false h0
  go_enter Tryz.func55, Tryz.ntmps55
  go_wp2
  go_ret
  exact ⟨ret_bool (by first | rfl | simp), rfl⟩
def rightI (b : Bool) : Int := if b then 0 else 1
theorem right_any (b : Bool) (w : World) : Calls Tryz.prog 54 #[.bool b] w fun e w' => e = .returned (.int .i64 (rightI b)) ∧ w = w' := by
 cases b
 ·go_enter Tryz.func54, Tryz.ntmps54
  go_wp2
  go_ret
  exact ⟨rfl, rfl⟩
 ·go_enter Tryz.func54, Tryz.ntmps54
  go_wp2
  go_ret
  exact ⟨rfl, rfl⟩
def canS (x : Asset) : Bool := inB x.unit 1 1099511627776 && (inB x.least 1 1099511627776 && (decide (x.least % x.unit = 0) && (inB x.price 0 1099511627776 && (inB x.cut 0 10000 && (inB x.close 0 1099511627776 && (!(x.cash && x.pledge) && (decide (x.close = 0) || x.cash)))))))

set_option maxHeartbeats 4000000 in
set_option maxRecDepth 10000 in
theorem can_any (x : Asset) (w : World) : Calls Tryz.prog 67 #[Kd.val x] w fun e w' => e = .returned (.bool (canS x)) ∧ Below w.heap.size w w' := by
 obtain ⟨name, cash, pledge, unit, least, price, cut, close⟩ := x
 unfold canS
 show Calls Tryz.prog 67 #[.agg #[.string name, .bool cash, .bool pledge, .int .i64 unit, .int .i64 least, .int .i64 price, .int .i64 cut, .int .i64 close]] w _
 go_enter Tryz.func67, Tryz.ntmps67
 go_wp2_with fail
 refine (in_any unit 1 1099511627776 _).mono ?_
 rintro e w1 ⟨rfl, rfl⟩
 cases h1 : inB unit 1 1099511627776
 ·go_wp2
  go_ret
  exact ⟨ret_bool (by first | rfl | (rw [h1]; rfl) | (rw [h1]; simp)), (Below.refl _ _).alloc (Nat.le_refl _) _⟩
 ·go_wp2_with fail
  refine (in_any least 1 1099511627776 _).mono ?_
  rintro e w1 ⟨rfl, rfl⟩
  cases h2 : inB least 1 1099511627776
  ·go_wp2
   go_ret
   exact ⟨ret_bool (by first | rfl | (rw [h1, h2]; rfl) | (rw [h1, h2]; simp)), (Below.refl _ _).alloc (Nat.le_refl _) _⟩
  ·have hu := inB_yes.1 h1
   have hl := inB_yes.1 h2
   by_cases h3 : least % unit = 0
   ·have h3b : (least % unit == 0) = true := by simp [h3]
    go_wp2_with fail
    refine (in_any price 0 1099511627776 _).mono ?_
    rintro e w1 ⟨rfl, rfl⟩
    cases h4 : inB price 0 1099511627776
    ·go_wp2
     go_ret
     exact ⟨ret_bool (by first | rfl | (rw [h1, h2, decide_eq_true h3, h4]; rfl) | (rw [h1, h2, decide_eq_true h3, h4]; simp)), (Below.refl _ _).alloc (Nat.le_refl _) _⟩
    ·go_wp2_with fail
     refine (in_any cut 0 10000 _).mono ?_
     rintro e w1 ⟨rfl, rfl⟩
     cases h5 : inB cut 0 10000
     ·go_wp2
      go_ret
      exact ⟨ret_bool (by first | rfl | (rw [h1, h2, decide_eq_true h3, h4, h5]; rfl) | (rw [h1, h2, decide_eq_true h3, h4, h5]; simp)), (Below.refl _ _).alloc (Nat.le_refl _) _⟩
     ·go_wp2_with fail
      refine (in_any close 0 1099511627776 _).mono ?_
      rintro e w1 ⟨rfl, rfl⟩
      cases h6 : inB close 0 1099511627776
      ·go_wp2
       go_ret
       exact ⟨ret_bool (by first | rfl | (rw [h1, h2, decide_eq_true h3, h4, h5, h6]; rfl) | (rw [h1, h2, decide_eq_true h3, h4, h5, h6]; simp)), (Below.refl _ _).alloc (Nat.le_refl _) _⟩
      ·cases cash
       ·by_cases h8 : close = 0
        ·have h8b : (close == 0) = true := by simp [h8]
         go_wp2
         go_ret
         exact ⟨ret_bool (by first | rfl | (rw [h1, h2, decide_eq_true h3, h4, h5, h6, decide_eq_true h8]; rfl) | (rw [h1, h2, decide_eq_true h3, h4, h5, h6, decide_eq_true h8]; simp)), (Below.refl _ _).alloc (Nat.le_refl _) _⟩
        ·have h8b : (close == 0) = false := by simp [h8]
         go_wp2
         go_ret
         exact ⟨ret_bool (by first | rfl | (rw [h1, h2, decide_eq_true h3, h4, h5, h6, decide_eq_false h8]; rfl) | (rw [h1, h2, decide_eq_true h3, h4, h5, h6, decide_eq_false h8]; simp)), (Below.refl _ _).alloc (Nat.le_refl _) _⟩
       ·cases pledge
        ·by_cases h8 : close = 0
         ·have h8b : (close == 0) = true := by simp [h8]
          go_wp2
          go_ret
          exact ⟨ret_bool (by first | rfl | (rw [h1, h2, decide_eq_true h3, h4, h5, h6, decide_eq_true h8]; rfl) | (rw [h1, h2, decide_eq_true h3, h4, h5, h6, decide_eq_true h8]; simp)), (Below.refl _ _).alloc (Nat.le_refl _) _⟩
         ·have h8b : (close == 0) = false := by simp [h8]
          go_wp2
          go_ret
          exact ⟨ret_bool (by first | rfl | (rw [h1, h2, decide_eq_true h3, h4, h5, h6, decide_eq_false h8]; rfl) | (rw [h1, h2, decide_eq_true h3, h4, h5, h6, decide_eq_false h8]; simp)), (Below.refl _ _).alloc (Nat.le_refl _) _⟩
        ·go_wp2
         go_ret
         exact ⟨ret_bool (by first | rfl | (rw [h1, h2, decide_eq_true h3, h4, h5, h6]; rfl) | (rw [h1, h2, decide_eq_true h3, h4, h5, h6]; simp)), (Below.refl _ _).alloc (Nat.le_refl _) _⟩
   ·have h3b : (least % unit == 0) = false := by simp [h3]
    go_wp2
    go_ret
    exact ⟨ret_bool (by first | rfl | (rw [h1, h2, decide_eq_false h3]; rfl) | (rw [h1, h2, decide_eq_false h3]; simp)), (Below.refl _ _).alloc (Nat.le_refl _) _⟩
theorem keyP_any (b : Nat) (w : World) : Calls Tryz.prog 51 #[.pointer (some ⟨b, 0, none⟩)] w fun e w' => e = .returned (.pointer (some ⟨b, 0, none⟩)) ∧ w = w' := by
 go_enter Tryz.func51, Tryz.ntmps51
 go_wp2
 go_ret
 exact ⟨rfl, rfl⟩
theorem keyC_any (b : Nat) (w : World) : Calls Tryz.prog 59 #[.pointer (some ⟨b, 0, none⟩)] w fun e w' => e = .returned (.pointer (some ⟨b, 0, none⟩)) ∧ w = w' := by
 go_enter Tryz.func59, Tryz.ntmps59
 go_wp2
 go_ret
 exact ⟨rfl, rfl⟩
theorem keyS_any (b : Nat) (w : World) : Calls Tryz.prog 64 #[.pointer (some ⟨b, 0, none⟩)] w fun e w' => e = .returned (.pointer (some ⟨b, 0, none⟩)) ∧ w = w' := by
 go_enter Tryz.func64, Tryz.ntmps64
 go_wp2
 go_ret
 exact ⟨rfl, rfl⟩
theorem aheadP_any (x : Party) (w : World) : Calls Tryz.prog 52 #[Kd.val x] w fun e w' => e = .returned (.int .i64 0) ∧ Below w.heap.size w w' := by
 go_enter Tryz.func52, Tryz.ntmps52
 go_wp2
 go_ret
 exact ⟨rfl, (Below.refl _ _).alloc (Nat.le_refl _) _⟩
theorem behindC_any (x : Account) (w : World) : Calls Tryz.prog 61 #[Kd.val x] w fun e w' => e = .returned (.int .i64 0) ∧ Below w.heap.size w w' := by
 go_enter Tryz.func61, Tryz.ntmps61
 go_wp2
 go_ret
 exact ⟨rfl, (Below.refl _ _).alloc (Nat.le_refl _) _⟩
theorem aheadS_any (x : Asset) (w : World) : Calls Tryz.prog 65 #[Kd.val x] w fun e w' => e = .returned (.int .i64 0) ∧ Below w.heap.size w w' := by
 go_enter Tryz.func65, Tryz.ntmps65
 go_wp2
 go_ret
 exact ⟨rfl, (Below.refl _ _).alloc (Nat.le_refl _) _⟩
def limP (x : Party) : Int := rightI (inB x.limit 0 1152921504606846976)
def canI (x : Asset) : Int := rightI (canS x)
theorem behindP_any (x : Party) (w : World) : Calls Tryz.prog 53 #[Kd.val x] w fun e w' => e = .returned (.int .i64 (limP x)) ∧ Below w.heap.size w w' := by
 obtain ⟨name, limit⟩ := x
 show Calls Tryz.prog 53 #[.agg #[.string name, .int .i64 limit]] w _
 go_enter Tryz.func53, Tryz.ntmps53
 go_wp2_with fail
 refine (in_any limit 0 1152921504606846976 _).mono ?_
 rintro e w1 ⟨rfl, rfl⟩
 go_wp2_with fail
 refine (right_any _ _).mono ?_
 rintro e w1 ⟨rfl, rfl⟩
 go_wp2
 go_ret
 exact ⟨rfl, (Below.refl _ _).alloc (Nat.le_refl _) _⟩
theorem behindS_any (x : Asset) (w : World) : Calls Tryz.prog 66 #[Kd.val x] w fun e w' => e = .returned (.int .i64 (canI x)) ∧ Below w.heap.size w w' := by
 have HC := fun w => can_any x w
 unfold canI
 obtain ⟨b, hb⟩ : ∃ b, canS x = b := ⟨_, rfl⟩
 rw [hb] at HC ⊢
 clear hb
 obtain ⟨name, cash, pledge, unit, least, price, cut, close⟩ := x
 have HC' : ∀ w, Calls Tryz.prog 67 #[.agg #[.string name, .bool cash, .bool pledge, .int .i64 unit, .int .i64 least, .int .i64 price, .int .i64 cut, .int .i64 close]] w fun e w' => e = .returned (.bool b) ∧ Below w.heap.size w w' := HC
 clear HC
 show Calls Tryz.prog 66 #[.agg #[.string name, .bool cash, .bool pledge, .int .i64 unit, .int .i64 least, .int .i64 price, .int .i64 cut, .int .i64 close]] w _
 go_enter Tryz.func66, Tryz.ntmps66
 go_wp2_with fail
 refine (HC' _).mono ?_
 rintro e w1 ⟨rfl, hb1⟩
 go_wp2_with fail
 refine (right_any _ _).mono ?_
 rintro e w2 ⟨rfl, rfl⟩
 have HB := Lib.hid (((Below.refl w.heap.size w).alloc (Nat.le_refl _) _).trans (hb1.mono (by simp)))
 clear hb1
 go_wp2
 go_ret
 exact ⟨rfl, HB.out⟩
end Go.Proofs.YtnpkplegeddhcaaGreat
namespace Go.Proofs.YtnpkplegeddhcaaGreat
open Go.RowKit Go.Maps Go.Shelf

section
variable {α : Type} [Kd α] {valid : ByteArray → Bool} {most : Nat} {ahead behind : α → Int}
theorem out_bad {had D : DataW Unit} {l : List α} {k : Nat} {x : α} {e : Int} (hx : l[k]? = some x) (hk : goR valid most ahead behind had (l.take k) = (0, D)) (he : errR valid most ahead behind D x = e) (hne : e ≠ 0) :
  (goR valid most ahead behind had l).1 = e ∧ outR valid most ahead behind had l = had := by
 have h := goR_bad hx hk (by rw [he]; exact hne)
 rw [he] at h
 exact ⟨h, by unfold outR; rw [if_neg (by rw [h]; exact hne)]⟩
theorem out_ok {had D : DataW Unit} {l : List α} (hk : goR valid most ahead behind had l = (0, D)) : (goR valid most ahead behind had l).1 = 0 ∧ outR valid most ahead behind had l = D := by
 unfold outR
 rw [hk]
 exact ⟨rfl, if_pos rfl⟩
theorem er_valid {D : DataW Unit} {x : α} (h : valid (Kd.key x) = false) : errR valid most ahead behind D x = 9 := by unfold errR; rw [if_pos h]
theorem er_ahead {D : DataW Unit} {x : α} (h : valid (Kd.key x) = true) (h1 : ahead x ≠ 0) : errR valid most ahead behind D x = ahead x := by unfold errR; rw [if_neg (by rw [h]; decide), if_pos h1]
theorem er_has {D : DataW Unit} {x : α} (h : valid (Kd.key x) = true) (h1 : ahead x = 0) (h2 : hasS D (Kd.key x) = true) : errR valid most ahead behind D x = 8 := by unfold errR; rw [if_neg (by rw [h]; decide), if_neg (by rw [h1]; decide), if_pos h2]
theorem er_behind {D : DataW Unit} {x : α} (h : valid (Kd.key x) = true) (h1 : ahead x = 0) (h2 : hasS D (Kd.key x) = false) (h3 : behind x ≠ 0) : errR valid most ahead behind D x = behind x := by unfold errR; rw [if_neg (by rw [h]; decide), if_neg (by rw [h1]; decide), if_neg (by rw [h2]; decide), if_pos h3]
theorem er_most {D : DataW Unit} {x : α} (h : valid (Kd.key x) = true) (h1 : ahead x = 0) (h2 : hasS D (Kd.key x) = false) (h3 : behind x = 0) (h4 : most ≤ Maps.size D) : errR valid most ahead behind D x = 10 := by unfold errR; rw [if_neg (by rw [h]; decide), if_neg (by rw [h1]; decide), if_neg (by rw [h2]; decide), if_neg (by rw [h3]; decide), if_pos h4]
theorem er_none {D : DataW Unit} {x : α} (h : valid (Kd.key x) = true) (h1 : ahead x = 0) (h2 : hasS D (Kd.key x) = false) (h3 : behind x = 0) (h4 : ¬ most ≤ Maps.size D) : errR valid most ahead behind D x = 0 := by unfold errR; rw [if_neg (by rw [h]; decide), if_neg (by rw [h1]; decide), if_neg (by rw [h2]; decide), if_neg (by rw [h3]; decide), if_neg h4]
/-- Records in memory. -/
structure RowsAt (w : World) (B : Nat) (A : Option Addr) (n : Nat) (l : List α) : Prop where
 row : 0 < l.length → ∃ ad, A = some ad ∧ ad.block < B ∧ ∀ k x, l[k]? = some x → ∀ j v, (Kd.val x).cells[j]? = some v → w.cell? ((ad.add (k * n)).add j) = some v
theorem RowsAt.at_ {w : World} {B n : Nat} {A : Option Addr} {l : List α} (h : RowsAt w B A n l) {k : Nat} (hk : k < l.length) :
  ∃ ad x, A = some ad ∧ ad.block < B ∧ l[k]? = some x ∧ x ∈ l ∧ ∀ j v, (Kd.val x).cells[j]? = some v → w.cell? ((ad.add (k * n)).add j) = some v := by
 obtain ⟨ad, e, hB, hc⟩ := h.row (by omega)
 exact ⟨ad, l[k], e, hB, List.getElem?_eq_getElem hk, List.getElem_mem hk, hc k _ (List.getElem?_eq_getElem hk)⟩
end
theorem validS_short {s : ByteArray} (h : validS s = true) : s.size ≤ 12 := by
 unfold validS at h
 simp only [Bool.and_eq_true, decide_eq_true_eq] at h
 exact h.1.2
theorem cloneP_nil (w : World) : Calls Tryz.prog 150 #[.map none] w fun e w' => e = .returned (.map none) ∧ w = w' := by
 have q := fun (w : World) (r : Option Nat) => map_nilP w r
 go_enter Tryz.func150, Tryz.ntmps150
 go_wp2
 go_ret
 exact ⟨rfl, rfl⟩
theorem cloneC_nil (w : World) : Calls Tryz.prog 155 #[.map none] w fun e w' => e = .returned (.map none) ∧ w = w' := by
 have q := fun (w : World) (r : Option Nat) => map_nilC w r
 go_enter Tryz.func155, Tryz.ntmps155
 go_wp2
 go_ret
 exact ⟨rfl, rfl⟩
theorem cloneS_nil (w : World) : Calls Tryz.prog 156 #[.map none] w fun e w' => e = .returned (.map none) ∧ w = w' := by
 have q := fun (w : World) (r : Option Nat) => map_nilS w r
 go_enter Tryz.func156, Tryz.ntmps156
 go_wp2
 go_ret
 exact ⟨rfl, rfl⟩
end Go.Proofs.YtnpkplegeddhcaaGreat
