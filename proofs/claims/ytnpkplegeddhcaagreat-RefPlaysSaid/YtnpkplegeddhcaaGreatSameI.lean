/-
 A calendar's map and the document's list have the same days, in plain words.
 Conditions: none.
-/
import Derived.Test.YtnpkplegeddhcaaGreatRefName
import Derived.Test.YtnpkplegeddhcaaGreatWords2
import Derived.Test.YtnpkplegeddhcaaGreatShelf4
import Derived.Outline
import Derived.Test.YtnpkplegeddhcaaGreatR8h
import Derived.Maps.Views
namespace Go.Proofs.YtnpkplegeddhcaaGreat
open Go.RowKit Go.Maps Go.Shelf

theorem own_tightI {w : World} {b n : Nat} {D : DataW Unit} (h : w.ownsMap Tryz.prog 3 (unitElem (H := Unit)) b n D) : w.ownsMap Tryz.prog 3 (unitElem (H := Unit)) b (Maps.size D) D := by
 obtain ⟨es, clock, hb, F, hs, hD⟩ := h
 refine ⟨es, clock, hb, F, ?_, hD⟩
 rw [hD, size_eq, length_read]
 exact Nat.le_refl _

theorem cloneI_any (D : DataW Unit) (b n : Nat) (w : World) (h : w.ownsMap Tryz.prog 3 (unitElem (H := Unit)) b n D) :
  Calls Tryz.prog 73 #[.map (some b)] w fun e w' => e = .returned (.map (some w.heap.size)) ∧ w'.ownsMap Tryz.prog 3 (unitElem (H := Unit)) w.heap.size n D ∧ w.heap.size < w'.heap.size ∧ Below w.heap.size w w' := by
 refine (AnyW.maps_Clone_owns Tryz.cloneM 3 (unitElem (H := Unit)) b n D w h).mono ?_
 rintro e w' ⟨rfl, h1, _, h2⟩
 exact ⟨rfl, h1, h1.lt, h2⟩

/-- More days. -/
def addD (D : DataW Unit) (l : List Int) : DataW Unit := l.foldl (fun m d => m.put (.int .i64 d) (.agg [])) D
theorem addD_step {D : DataW Unit} {l : List Int} {k : Nat} {d : Int} (h : l[k]? = some d) : addD D (l.take (k + 1)) = (addD D (l.take k)).put (.int .i64 d) (.agg []) := by
 unfold addD
 rw [take_snoc h, List.foldl_append]
 rfl
def errMore (D : DataW Unit) (l : List Int) : Int := if l.any (fun d => !isDayB d) then 17 else if 300 < Maps.size (addD D l) then 2 else 0
/-- A calendar's days behind the closing. -/
def outD (D : DataW Unit) (l : List Int) : DataW Unit := if errMore D l = 0 then addD D l else D
theorem outD_ok {D : DataW Unit} {l : List Int} (h : errMore D l = 0) : outD D l = addD D l := by unfold outD; rw [if_pos h]
theorem outD_no {D : DataW Unit} {l : List Int} {e : Int} (h : errMore D l = e) (h0 : e ≠ 0) : outD D l = D := by unfold outD; rw [if_neg (by rw [h]; exact h0)]

set_option maxHeartbeats 1000000 in
theorem close_any (c : Nat) (D : DataW Unit) (l : List Int) (A : Option Addr) (cp : Nat) (w : World) (hcal : CalAt c D w) (hD : Maps.size D ≤ 300) (hr : Reads w w.heap.size 1 A l.length (ints l)) (hl : l.length ≤ 1000000000)
  (hv : ∀ v ∈ l, -9223372036854775808 ≤ v ∧ v ≤ 9223372036854775807) :
  Calls Tryz.prog 26 #[.pointer (some ⟨c, 0, none⟩), .slice A l.length cp] w fun e w' => e = .returned (.int .i64 (errMore D l)) ∧ CalAt c (outD D l) w' ∧ Mv [c] [c] w w' := by
 obtain ⟨b, n0, hb, hown0⟩ := hcal
 have hown := own_tightI hown0
 clear hown0
 obtain ⟨s0, hs0⟩ : ∃ s0, Maps.size D = s0 := ⟨_, rfl⟩
 rw [hs0] at hown hD
 clear hs0
 have hc := contains_any l A cp w.heap.size w hr (by omega)
 have q := fun (w : World) (r : Option Nat) => map_nil w r
 have c0 : w.cell? ⟨c, 0, none⟩ = some (.map (some b)) := by rw [Lib.cell_of_heap hb]; rfl
 have hclt : c < w.heap.size := Blk.lt hb
 have HOwn := Lib.hid hown; clear hown
 cases hany : l.any (fun d => !isDayB d)
 ·have he : errMore D l = if 300 < Maps.size (addD D l) then 2 else 0 := by unfold errMore; rw [hany]; rfl
  rw [hany] at hc
  obtain ⟨n, hn⟩ : ∃ n, l.length = n := ⟨_, rfl⟩
  rw [hn] at hr hc hl ⊢
  have HC := Lib.hid hc; clear hc
  have Hn := Lib.hid hn; clear hn
  have Hr := Lib.hid hr; clear hr
  have Hv := Lib.hid hv; clear hv
  have HB := Lib.hid hb; clear hb
  have HE := Lib.hid he; clear he hany
  go_enter Tryz.func26, Tryz.ntmps26
  go_wp2_with (first
   | (go_at_call 70; refine HC.out.mono ?_; rintro e w' ⟨rfl, rfl⟩)
   | (go_at_call 73; refine (cloneI_any D b s0 _ HOwn.out).mono ?_; rintro e w1 ⟨rfl, hm1, hz1, hb1⟩))
  have hbm : w.heap.size ≠ c := by omega
  have HM1 := Lib.hid hm1; clear hm1
  have HB1 := Lib.hid hb1; clear hb1
  clear c0
  go_loopw [24] (fun i wr => ∃ k : Nat, k ≤ n ∧ i = .int .i64 k ∧ Hid (wr.ownsMap Tryz.prog 3 (unitElem (H := Unit)) w.heap.size (s0 + k) (addD D (l.take k))) ∧ Hid (Below w.heap.size w wr) ∧ w.heap.size < wr.heap.size) (fun i _ => n - (intOf i).toNat)
  case atStart => exact ⟨0, Nat.zero_le _, rfl, HM1.out, HB1.out, hz1⟩
  case round =>
   obtain ⟨k, hk, rfl, HM, HBl, hml⟩ := hrel
   by_cases hlt : k < n
   ·obtain ⟨ad, z, rfl, hab, hzk, hc0⟩ := int_at Hr.out hlt
    have hcell : wr.cell? (ad.add k) = some (.int .i64 z) := by rw [HBl.out.cell (p := ad.add k) (by rw [block_of_add]; exact hab)]; exact hc0
    have hz := Hv.out z (List.mem_of_getElem? hzk)
    have hst := addD_step (D := D) hzk
    have HS := Lib.hid hst; clear hst hzk hc0
    have hown := HM.out
    go_wp2_with (at_mapUpdate; refine wpList_mapUpdate_own _ rfl _ _ _ 104 rfl 3 130 keyLaw Tryz.underlying104 _ w.heap.size (s0 + k) _ rfl hown (by unfold maxLen; omega) _ _ _ rfl rfl (key_int hz.1 hz.2) _ [] unitElem_mk ?_)
    intro w2 hown1 hgrow1
    have Ho := Lib.hid hown1; clear hown1 hown
    have HB2 : Hid (Below w.heap.size w w2) := HBl.out.grown hgrow1 (by omega) (by intro j hj; cases hj; omega)
    have hz2 := hgrow1.size
    clear hgrow1 hcell
    go_wp2
    go_roundw
    case rel => exact ⟨k + 1, by omega, by go_num, by rw [HS.out]; exact Ho.out, HB2.out, by omega⟩
    case measure => simp [intOf]; omega
   ·have hkn : k = n := by omega
    subst hkn
    have hfull : l.take k = l := List.take_of_length_le (by have := Hn.out; omega)
    have hown := HM.out
    rw [hfull] at hown
    obtain ⟨sz, hsz⟩ : ∃ sz, Maps.size (addD D l) = sz := ⟨_, rfl⟩
    have hszle := hown.size_le
    rw [hsz] at hszle
    have hE := HE.out
    rw [hsz] at hE
    have hkc : wr.heap[c]? = some (.cells #[.map (some b)] 106 (0, 0)) := (HBl.out.block c hclt).trans HB.out
    have c0 : wr.cell? ⟨c, 0, none⟩ = some (.map (some b)) := by rw [Lib.cell_of_heap hkc]; rfl
    have f0 : wr.frozen? ⟨c, 0, none⟩ = false := Lib.frozen_of_heap hkc 0
    have HK := Lib.hid hkc; clear hkc
    have Hsz := Lib.hid hsz; clear hsz hfull HM
    have HE2 := Lib.hid hE; clear hE HE
    have hbc : Mv [c] [c] w wr := Mv.of_new HBl.out (fun _ hk => .inl hk)
    by_cases hbig : 300 < sz
    ·go_wp2_with (at_len; refine wpList_len_own _ rfl _ 104 rfl 3 130 Tryz.underlying104 _ w.heap.size (s0 + k) _ rfl hown ?_; rw [Hsz.out])
     go_ret
     refine ⟨ret_int (by rw [HE2.out, if_pos hbig]), ?_, hbc⟩
     rw [outD_no (HE2.out.trans (if_pos hbig)) (by decide)]
     exact CalAt.below ⟨b, s0, HB.out, HOwn.out⟩ HBl.out
    ·go_wp2_with (at_len; refine wpList_len_own _ rfl _ 104 rfl 3 130 Tryz.underlying104 _ w.heap.size (s0 + k) _ rfl hown ?_; rw [Hsz.out])
     go_ret
     refine ⟨ret_int (by rw [HE2.out, if_neg hbig]), ?_, hbc.set_ (by simp) 0 _⟩
     rw [outD_ok (HE2.out.trans (if_neg hbig))]
     exact ⟨w.heap.size, s0 + k, Blk.set_ HK.out 0 _, hown.setCell (a := ⟨c, 0, none⟩) hbm _⟩
 ·have he : errMore D l = 17 := by unfold errMore; rw [hany]; rfl
  rw [hany] at hc
  have HC := Lib.hid hc; clear hc
  rw [he, outD_no he (by decide)]
  clear he hany hr hv
  have HB := Lib.hid hb; clear hb
  go_enter Tryz.func26, Tryz.ntmps26
  go_wp2_with (go_at_call 70; refine HC.out.mono ?_; rintro e w' ⟨rfl, rfl⟩)
  go_ret
  exact ⟨rfl, ⟨b, s0, HB.out, HOwn.out⟩, Mv.refl _ _⟩
end Go.Proofs.YtnpkplegeddhcaaGreat
namespace Go.Proofs.YtnpkplegeddhcaaGreat
open Go.RowKit Go.Maps

structure SameI (D : DataW Unit) (L : List Int) : Prop where
 tidy : Tidy D
 len : L.length = Maps.size D
 mem : ∀ d, hasI L d = hasD D d
theorem sameI_none : SameI (setD []) [] := ⟨tidy_setOf _ _ (by simp), rfl, fun _ => rfl⟩
theorem mem_ins8 {L : List Int} {d x : Int} : x ∈ ins8 L d ↔ x = d ∨ x ∈ L := by
 unfold ins8
 split
 ·rename_i h
  constructor
  ·exact .inr
  ·rintro (rfl | hx)
   ·exact h
   ·exact hx
 ·have e : L = L.takeWhile (fun z => decide (z < d)) ++ L.dropWhile (fun z => decide (z < d)) := (List.takeWhile_append_dropWhile ..).symm
  constructor
  ·intro hx
   rw [List.mem_append, List.mem_append, List.mem_singleton] at hx
   rcases hx with (hx | hx) | hx
   ·exact .inr (mem_takeWhile hx)
   ·exact .inl hx
   ·exact .inr ((List.dropWhile_sublist _).subset hx)
  ·intro hx
   rw [List.mem_append, List.mem_append, List.mem_singleton]
   rcases hx with rfl | hx
   ·exact .inl (.inr rfl)
   ·rw [e, List.mem_append] at hx
    rcases hx with hx | hx
    ·exact .inl (.inl hx)
    ·exact .inr hx
theorem ins8_length (L : List Int) (d : Int) : (ins8 L d).length = if d ∈ L then L.length else L.length + 1 := by
 unfold ins8
 split
 ·rfl
 ·have h : (L.takeWhile (fun z => decide (z < d))).length + (L.dropWhile (fun z => decide (z < d))).length = L.length := by
   rw [← List.length_append, List.takeWhile_append_dropWhile]
  simp only [List.length_append, List.length_cons, List.length_nil]
  omega
theorem SameI.ins {D : DataW Unit} {L : List Int} (h : SameI D L) (d : Int) : SameI (D.put (.int .i64 d) (.agg [])) (ins8 L d) := by
 refine ⟨h.tidy.put (by simp [WideAt.IsKeyLit]) _, ?_, fun x => ?_⟩
 ·rw [ins8_length, size_put h.tidy, h.len]
  have hm := h.mem d
  unfold hasI hasD at hm
  by_cases hd : d ∈ L
  ·rw [if_pos hd, if_pos (by rw [← hm]; exact decide_eq_true hd)]
  ·rw [if_neg hd, if_neg (by rw [← hm]; simpa using hd)]
 ·unfold hasI
  by_cases e : x = d
  ·subst e
   have h1 : hasD (D.put (.int .i64 x) (.agg [])) x = true := has_put_same h.tidy.isMap (by simp [WideAt.IsKeyLit]) _
   rw [h1]
   exact decide_eq_true (mem_ins8.2 (.inl rfl))
  ·have h1 : hasD (D.put (.int .i64 d) (.agg [])) x = hasD D x := has_put_other (by intro e2; injection e2 with _ e2; exact e e2) _
   rw [h1, ← h.mem x]
   unfold hasI
   by_cases hx : x ∈ L
   ·rw [decide_eq_true hx, decide_eq_true (mem_ins8.2 (.inr hx))]
   ·rw [decide_eq_false hx, decide_eq_false (fun h2 => (mem_ins8.1 h2).elim e hx)]
theorem SameI.fold {l : List Int} : ∀ {D : DataW Unit} {L : List Int}, SameI D L → SameI (addD D l) (fold8 L l) := by
 induction l with
 | nil => intro D L h; exact h
 | cons d l ih => intro D L h; exact ih (h.ins d)
theorem SameI.err {D : DataW Unit} {L : List Int} (h : SameI D L) (l : List Int) : errC8 L l = errMore D l := by
 unfold errC8 errMore
 rw [h.fold.len]
 rfl
theorem SameI.out {D : DataW Unit} {L : List Int} (h : SameI D L) (l : List Int) : SameI (outD D l) (outC8 L l) := by
 unfold outD outC8
 rw [h.err l]
 split
 ·exact h.fold
 ·exact h
theorem SameI.is {D : DataW Unit} {L : List Int} (h : SameI D L) (d : Int) : isI L d = isB D d := by
 unfold isI isB
 rw [h.mem d]
end Go.Proofs.YtnpkplegeddhcaaGreat
