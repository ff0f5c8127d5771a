/-
  Package name as contracts: a set's list, texts sorted.
  Conditions: sets that the call has made; texts in lists that the call reads.
-/
import Derived.Test.YtlniafpbkhkkaaaGreatName4
import Derived.Test.YtlniafpbkhkkaaaGreatShelf3
namespace Go.Proofs.YtlniafpbkhkkaaaGreat
open Go.RowKit Go.Maps Go.Sort Go.Shelf

theorem sortsT (m : Nat) : AnyZ.SortsIn Tryz.prog Tryz.sortedA_ren Fence.wide m :=
  ⟨fun blk off cap ss W hH hblk hsz => callsIn_wide.2 (AnyM.slices_Sort_string Tryz.sortA blk off cap ss W hH hblk hsz),
   fun p cap W => callsIn_wide.2 (AnyM.slices_Sort_string_none Tryz.sortA p cap W)⟩
theorem keys_any (mb : Option Nat) (W : World) : Calls Tryz.prog 99 #[.map mb] W fun e w' => e = .returned (.func (.func 138) #[] #[.pointer (some ⟨W.heap.size, 0, none⟩)]) ∧ w' = W.alloc (.cells #[.map mb] 58) :=
  callsIn_wide.1 (AnyZ.keys_in Tryz.keysA Fence.wide 5 trivial rfl mb W)
theorem sorted_any (b nn : Nat) (D : DataW Unit) (w : World) (hown : w.ownsMap Tryz.prog 9 (unitElem (H := Unit)) b nn D) (hmax : Maps.size D ≤ 1000000) :
    Calls Tryz.prog 98 #[.func (.func 138) #[] #[.pointer (some ⟨w.heap.size, 0, none⟩)]] (w.alloc (.cells #[.map (some b)] 58)) fun e w' => ∃ (v : Value) (ss : List (List UInt8)), e = .returned v ∧ ss.Perm (strKeys D) ∧
      w'.ownsRow (w.heap.size + 1) 9 1 v ss.length ((ss.mergeSort (fun x y => decide (x ≤ y))).map encStr) ∧ (v = .slice none 0 0 ↔ ss = []) ∧ Below (w.heap.size + 1) (w.alloc (.cells #[.map (some b)] 58)) w' := by
  have hbl := hown.lt
  have hseq : SeqGives Fence.wide 2 Tryz.prog 138 #[.pointer (some ⟨w.heap.size, 0, none⟩)] encStr (fun ss => ss.Perm (strKeys D)) (Maps.size D) (w.alloc (.cells #[.map (some b)] 58)) :=
    AnyZ.keys_gives (ρ := Tryz.keysA_ren) { Tryz.keysA with } Fence.wide _ trivial rfl (by omega) w.heap.size b nn D _ (by simp) (by simp) (by
      obtain ⟨es, clock, hb, Ft, hs, hD⟩ := hown
      exact ⟨es, clock, (Below.heap_alloc _ _ b hbl).trans hb, Ft, hs, hD⟩)
  have cS := AnyZ.sorted_in Tryz.sortedA Fence.wide 5 trivial trivial trivial trivial rfl (by omega) (sortsT _) (enters_of Tryz.func137 (by kernel_rfl) rfl) 138 #[.pointer (some ⟨w.heap.size, 0, none⟩)] trivial (enters_of Tryz.func138 (by kernel_rfl) rfl) _ _ (by unfold maxLen; omega) (by omega) _ hseq
  have cS2 := callsIn_wide.1 cS
  rw [World.size_alloc] at cS2
  exact cS2

theorem reads_ownedT {w : World} {base n : Nat} {v : Value} {xs : List Value} (h : w.ownsRow base 9 1 v n xs) : ∃ A cap, v = .slice A n cap ∧ Reads w w.heap.size 1 A n xs ∧ ∀ ad, A = some ad → base ≤ ad.block ∧ ad.block < w.heap.size := by
  rcases h.2 with ⟨rfl, hx⟩ | ⟨g, cap, cur, rfl, hb, hh, _⟩
  · subst hx
    have hx1 : xs = [] := List.eq_nil_of_length_eq_zero (by have := h.1; omega)
    subst hx1
    exact ⟨none, 0, rfl, Reads.none_, by simp⟩
  · exact ⟨_, _, rfl, Reads.of_own h, fun ad e => by injection e with e; subst e; exact ⟨hb, Blk.lt (t := 9) hh⟩⟩
theorem encs (l : List (List UInt8)) : l.map encStr = strs (l.map fun x => ⟨x.toArray⟩) := by
  unfold strs
  rw [List.map_map]
  rfl

set_option maxHeartbeats 1000000 in
theorem list_any (c b : Nat) (D : DataW Unit) (hg : GoodS D) (hD : Maps.size D ≤ 1000000) (w : World) (h : SetAt c b D w) :
    Calls Tryz.prog 24 #[.pointer (some ⟨c, 0, none⟩)] w fun e w' => ∃ (A : Option Addr) (cap : Nat), e = .returned (.slice A (lstS D).length cap) ∧ Reads w' w'.heap.size 1 A (lstS D).length (strs (lstS D)) ∧ (∀ ad, A = some ad → w.heap.size ≤ ad.block ∧ ad.block < w'.heap.size) ∧ Below w.heap.size w w' := by
  have hS := sorted_any b _ D w h.2.1 hD
  have hlen := lstS_len hg
  have c0 : w.cell? ⟨c, 0, none⟩ = some (.map (some b)) := by rw [Lib.cell_of_heap h.1]; rfl
  have HS := Lib.hid hS
  have HL := Lib.hid hlen
  clear hS h hlen
  go_enter Tryz.func24, Tryz.ntmps24
  go_wp2_with fail
  refine (keys_any _ _).mono ?_
  rintro e w1 ⟨rfl, rfl⟩
  go_wp2_with fail
  refine HS.out.mono ?_
  rintro e w2 ⟨v, ss, rfl, hp, hown, _, hb2⟩
  have hsort : ss.mergeSort (fun x y => decide (x ≤ y)) = (strKeys D).mergeSort leB := mergeSort_of_perm hp
  rw [hsort] at hown
  have hln : ss.length = (lstS D).length := by rw [hp.length_eq]; unfold lstS; rw [List.length_map, List.length_mergeSort]
  rw [encs, hln] at hown
  have hown2 : w2.ownsRow (w.heap.size + 1) 9 1 v (lstS D).length (strs (lstS D)) := hown
  obtain ⟨A, cap, rfl, hrd, hbk⟩ := reads_ownedT hown2
  have hbl : Below w.heap.size w w2 := ((Below.refl w.heap.size w).alloc (Nat.le_refl _) _).trans (hb2.mono (by omega))
  have HR := Lib.hid hrd; have HBK := Lib.hid hbk; have HBL := Lib.hid hbl
  clear hrd hbk hbl hown hown2 hb2 hp hsort hln HS HL
  go_wp2
  go_ret
  exact ⟨A, cap, rfl, HR.out, fun ad e => ⟨by have := (HBK.out ad e).1; omega, (HBK.out ad e).2⟩, HBL.out⟩
theorem list_nil (w : World) : Calls Tryz.prog 24 #[.pointer none] w fun e w' => e = .returned (.slice none 0 0) ∧ w = w' := by
  go_enter Tryz.func24, Tryz.ntmps24
  go_wp2
  go_ret
  exact ⟨rfl, rfl⟩
/-- Texts sorted, each once. -/
def srt (l : List ByteArray) : List ByteArray := lstS (setS l)
theorem sort_any (l : List ByteArray) (A : Option Addr) (cp : Nat) (w : World) (hD : l.length ≤ 1000000) (hr : Reads w w.heap.size 1 A l.length (strs l)) (hA : 0 < l.length → ∀ ad, A = some ad → ad.block < w.heap.size) (hs : ∀ s ∈ l, s.size ≤ 281474976710656) :
    Calls Tryz.prog 8 #[.slice A l.length cp] w fun e w' => ∃ (A' : Option Addr) (cap : Nat), e = .returned (.slice A' (srt l).length cap) ∧ Reads w' w'.heap.size 1 A' (srt l).length (strs (srt l)) ∧ (∀ ad, A' = some ad → w.heap.size ≤ ad.block ∧ ad.block < w'.heap.size) ∧ Below w.heap.size w w' := by
  have hn := newset_any l A cp w (by omega) hr hA hs
  have hsz := size_set l
  have hl := fun (w1 : World) (h : SetAt w.heap.size (w.heap.size + 1) (setS l) w1) => list_any w.heap.size (w.heap.size + 1) (setS l) (goodS_set l) (by omega) w1 h
  obtain ⟨m, hm⟩ : ∃ m, l.length = m := ⟨_, rfl⟩
  rw [hm] at hn ⊢
  have HN := Lib.hid hn; have HL := fun w1 h => Lib.hid (hl w1 h)
  clear hn hl hr hA hs hD hsz hm
  show Calls _ _ _ _ fun e w' => ∃ (A' : Option Addr) (cap : Nat), e = .returned (.slice A' (lstS (setS l)).length cap) ∧ _
  go_enter Tryz.func8, Tryz.ntmps8
  go_wp2_with fail
  refine HN.out.mono ?_
  rintro e w1 ⟨rfl, h1, hb1⟩
  have HL1 := HL w1 h1
  have HB1 := Lib.hid hb1
  clear h1 hb1
  go_wp2_with fail
  refine HL1.out.mono ?_
  rintro e w2 ⟨A', cap, rfl, hr2, hA2, hb2⟩
  have hsz1 := HB1.out.size
  have HR2 := Lib.hid hr2; have HA2 := Lib.hid hA2; have HB2 := Lib.hid (HB1.out.trans (hb2.mono hsz1))
  clear hr2 hA2 hb2 HL1 HL HN
  go_wp2
  go_ret
  exact ⟨A', cap, rfl, HR2.out, fun ad e => ⟨by have := (HA2.out ad e).1; omega, (HA2.out ad e).2⟩, HB2.out⟩
end Go.Proofs.YtlniafpbkhkkaaaGreat
