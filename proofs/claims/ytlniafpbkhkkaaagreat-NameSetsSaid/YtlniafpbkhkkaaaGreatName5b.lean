/-
  Package name as contracts: a set's list, texts sorted, as rows that the caller owns.
  Conditions: sets that the call has made; texts in lists that the call reads.
-/
import Derived.Test.YtlniafpbkhkkaaaGreatName5
namespace Go.Proofs.YtlniafpbkhkkaaaGreat
open Go.RowKit Go.Maps Go.Sort Go.Shelf

theorem ownsRow_base {w : World} {base base' : Nat} {e : TypeId} {size : Nat} {v : Value} {n : Nat} {xs : List Value} (h : w.ownsRow base e size v n xs) (hb : base' ≤ base) : w.ownsRow base' e size v n xs := by
  obtain ⟨h1, h2⟩ := h
  refine ⟨h1, ?_⟩
  rcases h2 with h2 | ⟨g, cap, cur, hv, hg, r⟩
  · exact .inl h2
  · exact .inr ⟨g, cap, cur, hv, Nat.le_trans hb hg, r⟩

set_option maxHeartbeats 1000000 in
theorem list_own (c b : Nat) (D : DataW Unit) (hg : GoodS D) (hD : Maps.size D ≤ 1000000) (w : World) (h : SetAt c b D w) :
    Calls Tryz.prog 24 #[.pointer (some ⟨c, 0, none⟩)] w fun e w' => ∃ v : Value, e = .returned v ∧ w'.ownsRow w.heap.size 9 1 v (lstS D).length (strs (lstS D)) ∧ Below w.heap.size w w' := by
  have hS := sorted_any b _ D w h.2.1 hD
  have hlen := lstS_len hg
  have c0 : w.cell? ⟨c, 0, none⟩ = some (.map (some b)) := by rw [Lib.cell_of_heap h.1]; rfl
  have HS := Lib.hid hS
  have HL := Lib.hid hlen
  clear hS h hlen
  go_enter Tryz.func24, Tryz.ntmps24
  go_wp2_with fail
  refine (keys_any _ _).mono ?_
  rintro e w1 ⟨rfl, rfl⟩
  go_wp2_with fail
  refine HS.out.mono ?_
  rintro e w2 ⟨v, ss, rfl, hp, hown, _, hb2⟩
  have hsort : ss.mergeSort (fun x y => decide (x ≤ y)) = (strKeys D).mergeSort leB := mergeSort_of_perm hp
  rw [hsort] at hown
  have hln : ss.length = (lstS D).length := by rw [hp.length_eq]; unfold lstS; rw [List.length_map, List.length_mergeSort]
  rw [encs, hln] at hown
  have hown2 : w2.ownsRow w.heap.size 9 1 v (lstS D).length (strs (lstS D)) := ownsRow_base hown (by omega)
  have hbl : Below w.heap.size w w2 := ((Below.refl w.heap.size w).alloc (Nat.le_refl _) _).trans (hb2.mono (by omega))
  have HO := Lib.hid hown2; have HBL := Lib.hid hbl
  clear hbl hown hown2 hb2 hp hsort hln HS HL
  go_wp2
  go_ret
  exact ⟨v, rfl, HO.out, HBL.out⟩
set_option maxHeartbeats 1000000 in
theorem sort_own (l : List ByteArray) (A : Option Addr) (cp : Nat) (w : World) (hD : l.length ≤ 1000000) (hr : Reads w w.heap.size 1 A l.length (strs l)) (hA : 0 < l.length → ∀ ad, A = some ad → ad.block < w.heap.size) (hs : ∀ s ∈ l, s.size ≤ 281474976710656) :
    Calls Tryz.prog 8 #[.slice A l.length cp] w fun e w' => ∃ v : Value, e = .returned v ∧ w'.ownsRow w.heap.size 9 1 v (srt l).length (strs (srt l)) ∧ Below w.heap.size w w' := by
  have hn := newset_any l A cp w (by omega) hr hA hs
  have hsz := size_set l
  have hl := fun (w1 : World) (h : SetAt w.heap.size (w.heap.size + 1) (setS l) w1) => list_own w.heap.size (w.heap.size + 1) (setS l) (goodS_set l) (by omega) w1 h
  obtain ⟨m, hm⟩ : ∃ m, l.length = m := ⟨_, rfl⟩
  rw [hm] at hn ⊢
  have HN := Lib.hid hn; have HL := fun w1 h => Lib.hid (hl w1 h)
  clear hn hl hr hA hs hD hsz hm
  show Calls _ _ _ _ fun e w' => ∃ v : Value, e = .returned v ∧ w'.ownsRow w.heap.size 9 1 v (lstS (setS l)).length (strs (lstS (setS l))) ∧ _
  go_enter Tryz.func8, Tryz.ntmps8
  go_wp2_with fail
  refine HN.out.mono ?_
  rintro e w1 ⟨rfl, h1, hb1⟩
  have HL1 := HL w1 h1
  have HB1 := Lib.hid hb1
  clear h1 hb1
  go_wp2_with fail
  refine HL1.out.mono ?_
  rintro e w2 ⟨v, rfl, ho, hb2⟩
  have hsz1 := HB1.out.size
  have HO := Lib.hid (ownsRow_base ho hsz1); have HB2 := Lib.hid (HB1.out.trans (hb2.mono hsz1))
  clear ho hb2 HL1 HL HN
  go_wp2
  go_ret
  exact ⟨v, rfl, HO.out, HB2.out⟩
end Go.Proofs.YtlniafpbkhkkaaaGreat
