/-
  Package disk as contracts: all names; a twin.
  Conditions: disks that the call has made.
-/
import Derived.Test.YtofnglegdhchnaaDisk9
import Derived.Test.YtofnglegdhchnaaShelf2
import Derived.Test.YtofnglegdhchnaaShelf3
import Derived.Outline
namespace Go.Proofs.Ytofnglegdhchnaa
open Go.RowKit Go.Maps Go.Sort Go.Shelf

theorem GoodF.keys {D : DataW Unit} (h : GoodF D) : GoodS D := by
  obtain ⟨ht, es, rfl, hk⟩ := h
  exact ⟨ht, es, rfl, fun p hp => by obtain ⟨s, _, _, e, _⟩ := hk p hp; exact ⟨_, e⟩⟩
theorem sortsT (m : Nat) : AnyZ.SortsIn Try.prog Try.sortedA_ren Fence.wide m :=
  ⟨fun blk off cap ss W hH hblk hsz => callsIn_wide.2 (AnyM.slices_Sort_string Try.sortA blk off cap ss W hH hblk hsz),
   fun p cap W => callsIn_wide.2 (AnyM.slices_Sort_string_none Try.sortA p cap W)⟩
theorem keys_any (mb : Option Nat) (W : World) : Calls Try.prog 40 #[.map mb] W fun e w' => e = .returned (.func (.func 48) #[] #[.pointer (some ⟨W.heap.size, 0, none⟩)]) ∧ w' = W.alloc (.cells #[.map mb] 37) :=
  callsIn_wide.1 (AnyZ.keys_in Try.keysA Fence.wide 5 trivial rfl mb W)
theorem sorted_any (b nn : Nat) (D : DataW Unit) (w : World) (hown : w.ownsMap Try.prog 9 fileE b nn D) (hmax : Maps.size D ≤ 1000000) :
    Calls Try.prog 39 #[.func (.func 48) #[] #[.pointer (some ⟨w.heap.size, 0, none⟩)]] (w.alloc (.cells #[.map (some b)] 37)) fun e w' => ∃ (v : Value) (ss : List (List UInt8)), e = .returned v ∧ ss.Perm (strKeys D) ∧
      w'.ownsRow (w.heap.size + 1) 9 1 v ss.length ((ss.mergeSort (fun x y => decide (x ≤ y))).map encStr) ∧ (v = .slice none 0 0 ↔ ss = []) ∧ Below (w.heap.size + 1) (w.alloc (.cells #[.map (some b)] 37)) w' := by
  have hbl := hown.lt
  have hseq : SeqGives Fence.wide 2 Try.prog 48 #[.pointer (some ⟨w.heap.size, 0, none⟩)] encStr (fun ss => ss.Perm (strKeys D)) (Maps.size D) (w.alloc (.cells #[.map (some b)] 37)) :=
    AnyZ.keys_gives (ρ := Try.keysA_ren) { Try.keysA with } Fence.wide _ trivial rfl (by omega) w.heap.size b nn D _ (by simp) (by simp) (by
      obtain ⟨es, clock, hb, Ft, hs, hD⟩ := hown
      exact ⟨es, clock, (Below.heap_alloc _ _ b hbl).trans hb, Ft, hs, hD⟩)
  have cS := AnyZ.sorted_in Try.sortedA Fence.wide 5 trivial trivial trivial trivial rfl (by omega) (sortsT _) (enters_of Try.func47 (by kernel_rfl) rfl) 48 #[.pointer (some ⟨w.heap.size, 0, none⟩)] trivial (enters_of Try.func48 (by kernel_rfl) rfl) _ _ (by unfold maxLen; omega) (by omega) _ hseq
  have cS2 := callsIn_wide.1 cS
  rw [World.size_alloc] at cS2
  exact cS2
theorem reads_ownedT {w : World} {base n : Nat} {v : Value} {xs : List Value} (h : w.ownsRow base 9 1 v n xs) : ∃ A cap, v = .slice A n cap ∧ Reads w w.heap.size 1 A n xs ∧ ∀ ad, A = some ad → base ≤ ad.block ∧ ad.block < w.heap.size := by
  rcases h.2 with ⟨rfl, hx⟩ | ⟨g, cap, cur, rfl, hb, hh, _⟩
  · subst hx
    have hx1 : xs = [] := List.eq_nil_of_length_eq_zero (by have := h.1; omega)
    subst hx1
    exact ⟨none, 0, rfl, Reads.none_, by simp⟩
  · exact ⟨_, _, rfl, Reads.of_own h, fun ad e => by injection e with e; subst e; exact ⟨hb, Blk.lt (t := 9) hh⟩⟩
theorem encs (l : List (List UInt8)) : l.map encStr = strs (l.map fun x => ⟨x.toArray⟩) := by
  unfold strs
  rw [List.map_map]
  rfl

set_option maxHeartbeats 1000000 in
theorem files_any (c b : Nat) (st : Dk) (hok : st.Ok) (w : World) (h : DkAt c b st w) :
    Calls Try.prog 21 #[.pointer (some ⟨c, 0, none⟩)] w fun e w' => ∃ (A : Option Addr) (cap : Nat), e = .returned (.slice A (lstS st.fs).length cap) ∧ Reads w' w'.heap.size 1 A (lstS st.fs).length (strs (lstS st.fs)) ∧ (∀ ad, A = some ad → w.heap.size ≤ ad.block ∧ ad.block < w'.heap.size) ∧ Below w.heap.size w w' := by
  have hS := sorted_any b _ st.fs w h.2.1 hok.few
  have hlen := lstS_len hok.good.keys
  have c4 := h.cell4
  have HS := Lib.hid hS
  have HL := Lib.hid hlen
  clear hS h hlen hok
  go_enter Try.func21, Try.ntmps21
  go_wp2_with fail
  refine (keys_any _ _).mono ?_
  rintro e w1 ⟨rfl, rfl⟩
  go_wp2_with fail
  refine HS.out.mono ?_
  rintro e w2 ⟨v, ss, rfl, hp, hown, _, hb2⟩
  have hsort : ss.mergeSort (fun x y => decide (x ≤ y)) = (strKeys st.fs).mergeSort leB := mergeSort_of_perm hp
  rw [hsort] at hown
  have hln : ss.length = (lstS st.fs).length := by rw [hp.length_eq]; unfold lstS; rw [List.length_map, List.length_mergeSort]
  rw [encs, hln] at hown
  have hown2 : w2.ownsRow (w.heap.size + 1) 9 1 v (lstS st.fs).length (strs (lstS st.fs)) := hown
  obtain ⟨A, cap, rfl, hrd, hbk⟩ := reads_ownedT hown2
  have hbl : Below w.heap.size w w2 := ((Below.refl w.heap.size w).alloc (Nat.le_refl _) _).trans (hb2.mono (by omega))
  have HR := Lib.hid hrd; have HBK := Lib.hid hbk; have HBL := Lib.hid hbl
  clear hrd hbk hbl hown hown2 hb2 hp hsort hln HS HL
  go_wp2
  go_ret
  exact ⟨A, cap, rfl, HR.out, fun ad e => ⟨by have := (HBK.out ad e).1; omega, (HBK.out ad e).2⟩, HBL.out⟩
theorem clones_any (D : DataW Unit) (b n : Nat) (w : World) (h : w.ownsMap Try.prog 9 fileE b n D) :
    Calls Try.prog 42 #[.map (some b)] w fun e w' => e = .returned (.map (some w.heap.size)) ∧ w'.ownsMap Try.prog 9 fileE w.heap.size n D ∧ w.heap.size < w'.heap.size ∧ Below w.heap.size w w' := by
  refine (AnyW.maps_Clone_owns Try.cloneM 9 fileE b n D w h).mono ?_
  rintro e w' ⟨rfl, h1, _, h2⟩
  exact ⟨rfl, h1, h1.lt, h2⟩
set_option maxHeartbeats 1000000 in
theorem twin_any (c b : Nat) (st : Dk) (w : World) (h : DkAt c b st w) :
    Calls Try.prog 23 #[.pointer (some ⟨c, 0, none⟩)] w fun e w' => ∃ c' b', e = .returned (.pointer (some ⟨c', 0, none⟩)) ∧ DkAt c' b' st w' ∧ w.heap.size ≤ c' ∧ w.heap.size ≤ b' ∧ Below w.heap.size w w' := by
  have hclt := h.lt
  have c0 := h.cell0; have c1 := h.cell1; have c2 := h.cell2; have c3 := h.cell3; have c4 := h.cell4
  have HC := Lib.hid (clones_any st.fs b _ w.drew h.2.1)
  clear h
  obtain ⟨on, fused, left, ops, fs⟩ := st
  go_enter Try.func23, Try.ntmps23
  go_wp2
  go_region_held3 (fun W => W.cell? ⟨c, 0, none⟩ = some (.bool on) ∧ W.cell? ⟨c, 1, none⟩ = some (.bool fused) ∧ W.cell? ⟨c, 2, none⟩ = some (.int .i64 left) ∧ W.cell? ⟨c, 3, none⟩ = some (.int .i64 ops) ∧ W.cell? ⟨c, 4, none⟩ = some (.map (some b)))
    (first
      | exact ⟨c0, c1, c2, c3, c4⟩
      | exact ⟨(hb2.cell (show (⟨c, 0, none⟩ : Addr).block < _ from hclt)).trans c0, (hb2.cell (show (⟨c, 1, none⟩ : Addr).block < _ from hclt)).trans c1, (hb2.cell (show (⟨c, 2, none⟩ : Addr).block < _ from hclt)).trans c2, (hb2.cell (show (⟨c, 3, none⟩ : Addr).block < _ from hclt)).trans c3, (hb2.cell (show (⟨c, 4, none⟩ : Addr).block < _ from hclt)).trans c4⟩
      | go_keep)
    (first | (go_at_call 42; refine HC.out.mono ?_; rintro e w2 ⟨rfl, hm2, hz2, hb2⟩))
  all_goals
    have hs2 : w.heap.size < w2.heap.size := hz2
    have HB := Lib.hid (show Below w.heap.size w w2 from (Below.refl w.heap.size w).drew.trans hb2)
    have HM2 := Lib.hid (show w2.ownsMap Try.prog 9 fileE w.heap.size (Maps.size fs) fs from hm2)
    go_wp2
    go_ret
    refine ⟨w2.heap.size, w.heap.size, rfl, ⟨?_, HM2.out.alloc _, ?_⟩, Nat.le_of_lt hs2, Nat.le_refl _, HB.out.alloc (Nat.le_of_lt hs2) _⟩
    · exact heap_alloc_new _ _
    · show w2.heap.size ≠ w.heap.size
      omega
end Go.Proofs.Ytofnglegdhchnaa
