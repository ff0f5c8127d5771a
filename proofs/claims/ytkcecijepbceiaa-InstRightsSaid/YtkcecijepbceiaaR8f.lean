/-
  The small world of chapter 12 as a contract: complineref8's New, Data, Both.
  Conditions: none.
-/
import Derived.Test.YtkcecijepbceiaaR8e
import Derived.Test.YtkcecijepbceiaaChkPlain
import Derived.OwnWalk
namespace Go.Proofs.Ytkcecijepbceiaa
open Go.RowKit Go.Maps Go.Shelf
attribute [local go_sem ↓] Go.wp_at_zero Go.wp_at_succ
set_option maxRecDepth 100000

theorem type_ne {w : World} {a b : Nat} {cs cs' : Array Value} {t t' : TypeId} (ha : w.heap[a]? = some (.cells cs t (0, 0))) (hb : w.heap[b]? = some (.cells cs' t' (0, 0))) (ht : t ≠ t') : a ≠ b := by
  rintro rfl
  rw [ha] at hb
  injection hb with hb
  injection hb with _ hb
  exact ht hb
theorem RefAt.aside {r b : Nat} {st : Rf} {w w' : World} {S' : List Nat} {cs : Array Value} {t : TypeId} (h : RefAt r st w) (hm : Mv [b] S' w w') (hb : w.heap[b]? = some (.cells cs t (0, 0))) (ht : 75 ≠ t) (ht2 : 126 ≠ t) : RefAt r st w' := by
  have hx := h.lt
  obtain ⟨c, vp, va, vs, h1, hp, ha, h2, h3, h4, h5, h6⟩ := h
  have keep : ∀ {α : Type} [Kd α] {v : Value} {D : DataW Unit}, MapAt α v D w → MapAt α v D w' := by
    intro α _ v D hm2
    rcases hm2 with h | ⟨q, h7, h8⟩
    · exact .inl h
    · exact .inr ⟨q, h7, own_keep h8 (hm.block q h8.lt (by have := blk_own_ne h8 hb; simpa using this))⟩
  refine ⟨c, vp, va, vs, (hm.block r hx (by simpa using type_ne h1 hb ht)).trans h1, hp, ha, keep h2, keep h3, keep h4, ?_, h6⟩
  have hcl := h5.lt
  obtain ⟨q, n, h9, h10⟩ := h5
  refine ⟨q, n, (hm.block c hcl (by simpa using type_ne h9 hb ht2)).trans h9, ?_⟩
  have hbr := blk_own_ne h10 hb
  have hbl := h10.lt
  obtain ⟨es, clock, h11, h12⟩ := h10
  exact ⟨es, clock, (hm.block q hbl (by simpa using hbr)).trans h11, h12⟩
theorem R8At.aside {x b : Nat} {st : R8} {w w' : World} {S' : List Nat} {cs : Array Value} {t : TypeId} (h : R8At x st w) (hm : Mv [b] S' w w') (hb : w.heap[b]? = some (.cells cs t (0, 0))) (ht : 83 ≠ t) (hs : ∀ s, Value.string s ∉ cs) (hz : ∀ z, Value.int .i64 z ∉ cs) : R8At x st w' := by
  have hx := h.lt
  obtain ⟨vl, vp, va, vs, h1, ⟨Al, cl, e1, a1, b1, d1⟩, ⟨Ap, cp, e2, a2, b2, d2⟩, ⟨Aa, ca, e3, a3, b3, d3⟩, ⟨As, cs', e4, a4, b4, d4⟩⟩ := h
  refine ⟨vl, vp, va, vs, (hm.block x hx (by simpa using type_ne h1 hb ht)).trans h1, ⟨Al, cl, e1, a1, ?_, d1⟩, ⟨Ap, cp, e2, a2, b2.mvx hm (b2.off hb hs (fun y => ⟨_, rfl⟩)), d2⟩, ⟨Aa, ca, e3, a3, b3.mvx hm (b3.off hb hs (fun y => ⟨_, rfl⟩)), d3⟩, ⟨As, cs', e4, a4, b4.mvx hm (b4.off hb hs (fun y => ⟨_, rfl⟩)), d4⟩⟩
  have hof := ints_off b1 rfl hb hz
  refine ⟨b1.1, fun hn => ?_⟩
  obtain ⟨ad, e, hlt, hc⟩ := b1.2 hn
  refine ⟨ad, e, Nat.lt_of_lt_of_le hlt hm.size, fun j u hu => ?_⟩
  rw [World.cell?_of_block (w := w) (w' := w') (by rw [block_of_add]; exact hm.block _ hlt (by simpa using hof hn ad e))]
  exact hc j u hu
theorem R8At.heap {x : Nat} {st : R8} {w : World} (h : R8At x st w) : ∃ cs, w.heap[x]? = some (.cells cs 83 (0, 0)) := by
  obtain ⟨_, _, _, _, h, _⟩ := h
  exact ⟨_, h⟩
theorem RefAt.heap {r : Nat} {st : Rf} {w : World} (h : RefAt r st w) : ∃ c p a s, w.heap[r]? = some (.cells #[.pointer c, .map p, .map a, .map s] 75 (0, 0)) := by
  obtain ⟨c, vp, va, vs, h1, ⟨_, rfl⟩, ⟨_, rfl⟩, _, _, h4, _⟩ := h
  rcases h4 with ⟨rfl, _⟩ | ⟨b, rfl, _⟩ <;> exact ⟨_, _, _, _, h1⟩
def x0 : R8 := ⟨[], [⟨bankS, 0⟩], [⟨bankS, bankS⟩], []⟩
set_option maxHeartbeats 4000000 in
theorem new8_any (w : World) : Calls Try.prog 53 #[.slice none 0 0] w fun e w' => ∃ x, e = .returned (.pointer (some ⟨x, 0, none⟩)) ∧ w.heap.size ≤ x ∧ R8At x x0 w' ∧ Below w.heap.size w w' := by
  have HP := Lib.hid (rows_newN (N := 2) w ([⟨bankS, 0⟩] : List Party) 130 #[.string ⟨#[66, 65, 78, 75]⟩, .int .i64 0] rfl (fun _ _ => rfl))
  obtain ⟨W1, hW1⟩ : ∃ W1, w.alloc (.cells #[.string ⟨#[66, 65, 78, 75]⟩, .int .i64 0] 130) = W1 := ⟨_, rfl⟩
  rw [hW1] at HP
  have hb1 : Below w.heap.size w W1 := by rw [← hW1]; exact (Below.refl _ _).alloc (Nat.le_refl _) _
  have hz1 : W1.heap.size = w.heap.size + 1 := by rw [← hW1]; simp
  have HA := Lib.hid (rows_newN (N := 2) W1 ([⟨bankS, bankS⟩] : List Account) 134 #[.string ⟨#[66, 65, 78, 75]⟩, .string ⟨#[66, 65, 78, 75]⟩] rfl (fun _ _ => rfl))
  obtain ⟨W2, hW2⟩ : ∃ W2, W1.alloc (.cells #[.string ⟨#[66, 65, 78, 75]⟩, .string ⟨#[66, 65, 78, 75]⟩] 134) = W2 := ⟨_, rfl⟩
  rw [hW2] at HA
  have hb2 : Below W1.heap.size W1 W2 := by rw [← hW2]; exact (Below.refl _ _).alloc (Nat.le_refl _) _
  have hz2 : W2.heap.size = W1.heap.size + 1 := by rw [← hW2]; simp
  have HB1 := Lib.hid hb1; have HB2 := Lib.hid hb2; have HZ1 := Lib.hid hz1; have HZ2 := Lib.hid hz2
  clear hb1 hb2 hz1 hz2
  go_enter Try.func53, Try.ntmps53
  go_wp2
  go_ret
  have hb3 : Below W2.heap.size W2 (W2.alloc (.cells #[.slice none 0 0, .slice (some ⟨w.heap.size, 0, none⟩) 1 1, .slice (some ⟨W1.heap.size, 0, none⟩) 1 1, .slice none 0 0] 83)) := (Below.refl _ _).alloc (Nat.le_refl _) _
  have z1 := HZ1.out
  have z2 := HZ2.out
  have hP := (HP.out.below HB2.out).below hb3
  have hA := HA.out.below hb3
  refine ⟨W2.heap.size, rfl, by omega, ⟨.slice none 0 0, .slice (some ⟨w.heap.size, 0, none⟩) 1 1, .slice (some ⟨W1.heap.size, 0, none⟩) 1 1, .slice none 0 0, heap_alloc_new _ _, ⟨none, 0, rfl, Nat.le_refl _, Reads.none_, fun h => absurd h (by simp [x0])⟩, ⟨_, _, rfl, Nat.le_refl _, hP, fun _ ad e => by injection e with e; subst e; show w.heap.size ≠ W2.heap.size; omega⟩, ⟨_, _, rfl, Nat.le_refl _, hA, fun _ ad e => by injection e with e; subst e; show W1.heap.size ≠ W2.heap.size; omega⟩, ⟨none, 0, rfl, Nat.le_refl _, ⟨fun h => absurd h (by simp [x0])⟩, fun h => absurd h (by simp [x0])⟩⟩, (HB1.out.trans (HB2.out.mono HB1.out.size)).trans (hb3.mono (by omega))⟩
set_option maxHeartbeats 4000000 in
theorem data_any (w : World) : Calls Try.prog 54 #[] w fun e w' => ∃ a b c, e = .returned (.tuple #[.slice (some ⟨a, 0, none⟩) 3 3, .slice (some ⟨b, 0, none⟩) 6 6, .slice (some ⟨c, 0, none⟩) 5 5]) ∧ w.heap.size ≤ a ∧ w.heap.size ≤ b ∧ w.heap.size ≤ c ∧ RowsAt w' w'.heap.size (some ⟨a, 0, none⟩) 2 pl0 ∧ RowsAt w' w'.heap.size (some ⟨b, 0, none⟩) 2 ac0 ∧ RowsAt w' w'.heap.size (some ⟨c, 0, none⟩) 8 as0 ∧ Below w.heap.size w w' := by
  go_enter Try.func54, Try.ntmps54
  go_wp2
  go_ret3
  have h1 := rows_newN (N := 2) w pl0 130 (cellsOf pl0).toArray rfl (fun _ _ => rfl)
  have b1 : Below w.heap.size w (w.alloc (.cells (cellsOf pl0).toArray 130)) := (Below.refl _ _).alloc (Nat.le_refl _) _
  obtain ⟨W1, hW1⟩ : ∃ W1, w.alloc (.cells (cellsOf pl0).toArray 130) = W1 := ⟨_, rfl⟩
  rw [hW1] at h1 b1
  have h2 := rows_newN (N := 2) W1 ac0 134 (cellsOf ac0).toArray rfl (fun _ _ => rfl)
  have b2 : Below W1.heap.size W1 (W1.alloc (.cells (cellsOf ac0).toArray 134)) := (Below.refl _ _).alloc (Nat.le_refl _) _
  obtain ⟨W2, hW2⟩ : ∃ W2, W1.alloc (.cells (cellsOf ac0).toArray 134) = W2 := ⟨_, rfl⟩
  rw [hW2] at h2 b2
  have h3 := rows_newN (N := 8) W2 as0 138 (cellsOf as0).toArray rfl (fun _ _ => rfl)
  have b3 : Below W2.heap.size W2 (W2.alloc (.cells (cellsOf as0).toArray 138)) := (Below.refl _ _).alloc (Nat.le_refl _) _
  obtain ⟨W3, hW3⟩ : ∃ W3, W2.alloc (.cells (cellsOf as0).toArray 138) = W3 := ⟨_, rfl⟩
  rw [hW3] at h3 b3
  have z1 := b1.size
  have z2 := b2.size
  have e3 : ((w.alloc (.cells (cellsOf pl0).toArray 130)).alloc (.cells (cellsOf ac0).toArray 134)).alloc (.cells (cellsOf as0).toArray 138) = W3 := by rw [hW1, hW2, hW3]
  show ∃ a b c, _ = _ ∧ _ ∧ _ ∧ _ ∧ RowsAt (((w.alloc (.cells (cellsOf pl0).toArray 130)).alloc (.cells (cellsOf ac0).toArray 134)).alloc (.cells (cellsOf as0).toArray 138)) (((w.alloc (.cells (cellsOf pl0).toArray 130)).alloc (.cells (cellsOf ac0).toArray 134)).alloc (.cells (cellsOf as0).toArray 138)).heap.size _ _ _ ∧ RowsAt (((w.alloc (.cells (cellsOf pl0).toArray 130)).alloc (.cells (cellsOf ac0).toArray 134)).alloc (.cells (cellsOf as0).toArray 138)) (((w.alloc (.cells (cellsOf pl0).toArray 130)).alloc (.cells (cellsOf ac0).toArray 134)).alloc (.cells (cellsOf as0).toArray 138)).heap.size _ _ _ ∧ RowsAt (((w.alloc (.cells (cellsOf pl0).toArray 130)).alloc (.cells (cellsOf ac0).toArray 134)).alloc (.cells (cellsOf as0).toArray 138)) (((w.alloc (.cells (cellsOf pl0).toArray 130)).alloc (.cells (cellsOf ac0).toArray 134)).alloc (.cells (cellsOf as0).toArray 138)).heap.size _ _ _ ∧ Below _ _ (((w.alloc (.cells (cellsOf pl0).toArray 130)).alloc (.cells (cellsOf ac0).toArray 134)).alloc (.cells (cellsOf as0).toArray 138))
  rw [e3]
  refine ⟨w.heap.size, W1.heap.size, W2.heap.size, ?_, Nat.le_refl _, z1, Nat.le_trans z1 z2, (h1.below b2).below b3, h2.below b3, h3, (b1.trans (b2.mono z1)).trans (b3.mono (Nat.le_trans z1 z2))⟩
  rw [← hW2, ← hW1]
  simp
end Go.Proofs.Ytkcecijepbceiaa
