/-
  Package name's sets as contracts: made anew, grown, made smaller, asked.
  Conditions: sets that the call has made; texts in lists that the call reads.
-/
import Derived.WalkKit
import Derived.Lib.Hide
import Derived.Lib.Builder
import Derived.Deep.QuietTactic
import Derived.BigQuiet
import Derived.Deep.DeepCutAuto
import Derived.Deep.RegionHeld3
import Derived.KernelRfl
import Derived.WalkSpells
import Derived.Test.YtlniafpbkhkkaaaGreatNamePlain
import Derived.Test.YtlniafpbkhkkaaaGreatClone
import Derived.Test.YtlniafpbkhkkaaaGreatMv
namespace Go.Proofs.YtlniafpbkhkkaaaGreat
open Go.RowKit Go.Maps

theorem keyT : Keyed Tryz.prog 9 := string_keyed Tryz.underlying9
theorem zeroU (w : World) : (zeroValue 104).run Tryz.prog w = .ok (.agg #[]) w := by kernel_rfl
theorem key_str {s : ByteArray} (h : s.size ≤ 9223372036854775807) : keyOf Tryz.prog 9 (.string s) = some (kS s) := by
  unfold keyOf kS
  simp [Tryz.underlying9, mapKey]
  unfold maxLen
  exact h
theorem map_nil (w : World) (r : Option Nat) : (binOp .eql 58 (.map r) (.map none)).run Tryz.prog w = .ok (.bool r.isNone) w := run_eql_map_nil w 58 _ _ r Tryz.underlying58
/-- A set in block c, its map in block b. -/
def SetAt (c b : Nat) (D : DataW Unit) (w : World) : Prop :=
  w.heap[c]? = some (.cells #[.map (some b)] 60 (0, 0)) ∧ w.ownsMap Tryz.prog 9 (unitElem (H := Unit)) b (Maps.size D) D ∧ c ≠ b
theorem own_tight {w : World} {b n : Nat} {D : DataW Unit} (h : w.ownsMap Tryz.prog 9 (unitElem (H := Unit)) b n D) : w.ownsMap Tryz.prog 9 (unitElem (H := Unit)) b (Maps.size D) D := by
  obtain ⟨es, clock, hb, F, hs, hD⟩ := h
  refine ⟨es, clock, hb, F, ?_, hD⟩
  rw [hD, size_eq, length_read]
  exact Nat.le_refl _
theorem own_keep {w w' : World} {b n : Nat} {D : DataW Unit} (h : w.ownsMap Tryz.prog 9 (unitElem (H := Unit)) b n D) (hb : w'.heap[b]? = w.heap[b]?) : w'.ownsMap Tryz.prog 9 (unitElem (H := Unit)) b n D := by
  obtain ⟨es, clock, h1, h2⟩ := h
  exact ⟨es, clock, hb.trans h1, h2⟩
section
variable {c b : Nat} {D : DataW Unit} {w w' : World}
theorem SetAt.lt (h : SetAt c b D w) : c < w.heap.size := Blk.lt h.1
theorem SetAt.ltb (h : SetAt c b D w) : b < w.heap.size := h.2.1.lt
theorem SetAt.keep (h : SetAt c b D w) (hc : w'.heap[c]? = w.heap[c]?) (hb : w'.heap[b]? = w.heap[b]?) : SetAt c b D w' := ⟨hc.trans h.1, own_keep h.2.1 hb, h.2.2⟩
theorem SetAt.below {B : Nat} (h : SetAt c b D w) (hb : Below B w w') (h1 : c < B) (h2 : b < B) : SetAt c b D w' := h.keep (hb.block c h1) (hb.block b h2)
theorem SetAt.alloc (h : SetAt c b D w) (o : Obj) : SetAt c b D (w.alloc o) := h.keep (Below.heap_alloc w o c h.lt) (Below.heap_alloc w o b h.ltb)
theorem SetAt.mv {S S' : List Nat} (h : SetAt c b D w) (hm : Mv S S' w w') (h1 : c ∉ S) (h2 : b ∉ S) : SetAt c b D w' := h.keep (hm.block c h.lt h1) (hm.block b h.ltb h2)
end

theorem Mv.drew {S S' : List Nat} {w w' : World} (h : Mv S S' w w') : Mv S S' w w'.drew := ⟨h.os, h.tape, h.output, h.size, h.block, h.link⟩
theorem Mv.then_below {S S' : List Nat} {w w' w'' : World} (h : Mv S S' w w') (hb : Below w'.heap.size w' w'') : Mv S S' w w'' := h.trans (Mv.of_new hb fun _ h => .inl h)
theorem has_any (c b : Nat) (D : DataW Unit) (s : ByteArray) (hs : s.size ≤ 9223372036854775807) (w : World) (h : SetAt c b D w) :
    Calls Tryz.prog 23 #[.pointer (some ⟨c, 0, none⟩), .string s] w fun e w' => e = .returned (.bool (hasS D s)) ∧ Below w.heap.size w w' := by
  have hz := fun (w : World) => zeroU w
  obtain ⟨hb, hown, _⟩ := h
  obtain ⟨x, hx⟩ : ∃ x, hasS D s = x := ⟨_, rfl⟩
  rw [hx]
  have HX := Lib.hid hx; clear hx
  have c0 : w.cell? ⟨c, 0, none⟩ = some (.map (some b)) := by rw [Lib.cell_of_heap hb]; rfl
  have HB := Lib.hid hb; clear hb
  go_enter Tryz.func23, Tryz.ntmps23
  go_wp2_with (at_lookup; refine wpList_lookup_own_unit _ rfl _ _ 58 rfl 9 104 keyT Tryz.underlying58 (zeroU _) b _ D rfl hown _ _ rfl (key_str hs) ?_)
  go_ret
  exact ⟨ret_bool (by rw [← HX.out]; rfl), (Below.refl _ _).alloc (Nat.le_refl _) _⟩
theorem has_nil (s : ByteArray) (w : World) : Calls Tryz.prog 23 #[.pointer none, .string s] w fun e w' => e = .returned (.bool false) ∧ w = w' := by
  go_enter Tryz.func23, Tryz.ntmps23
  go_wp2
  go_ret
  exact ⟨rfl, rfl⟩
theorem len_any (c b : Nat) (D : DataW Unit) (w : World) (h : SetAt c b D w) :
    Calls Tryz.prog 25 #[.pointer (some ⟨c, 0, none⟩)] w fun e w' => e = .returned (.int .i64 (Maps.size D : Nat)) ∧ w = w' := by
  obtain ⟨hb, hown, _⟩ := h
  have c0 : w.cell? ⟨c, 0, none⟩ = some (.map (some b)) := by rw [Lib.cell_of_heap hb]; rfl
  have HB := Lib.hid hb; clear hb
  go_enter Tryz.func25, Tryz.ntmps25
  go_wp2_with (at_len; refine wpList_len_own _ rfl _ 58 rfl 9 104 Tryz.underlying58 _ b _ _ rfl hown ?_)
  go_ret
  exact ⟨rfl, rfl⟩
theorem len_nil (w : World) : Calls Tryz.prog 25 #[.pointer none] w fun e w' => e = .returned (.int .i64 0) ∧ w = w' := by
  go_enter Tryz.func25, Tryz.ntmps25
  go_wp2
  go_ret
  exact ⟨rfl, rfl⟩
end Go.Proofs.YtlniafpbkhkkaaaGreat
