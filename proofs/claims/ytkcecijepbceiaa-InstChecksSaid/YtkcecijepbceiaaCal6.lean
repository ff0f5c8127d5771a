/-
  Package cal as contracts: a calendar closed on more days; its holidays.
  Conditions: ints; a calendar that the call has made, of at most 300 holidays.
-/
import Derived.Test.YtkcecijepbceiaaRefCal
import Derived.Test.YtkcecijepbceiaaMv
import Derived.Test.YtkcecijepbceiaaShelf4
import Derived.Outline
namespace Go.Proofs.Ytkcecijepbceiaa
open Go.RowKit Go.Maps Go.Shelf

theorem own_tightI {w : World} {b n : Nat} {D : DataW Unit} (h : w.ownsMap Try.prog 3 (unitElem (H := Unit)) b n D) : w.ownsMap Try.prog 3 (unitElem (H := Unit)) b (Maps.size D) D := by
  obtain ⟨es, clock, hb, F, hs, hD⟩ := h
  refine ⟨es, clock, hb, F, ?_, hD⟩
  rw [hD, size_eq, length_read]
  exact Nat.le_refl _

theorem cloneI_any (D : DataW Unit) (b n : Nat) (w : World) (h : w.ownsMap Try.prog 3 (unitElem (H := Unit)) b n D) :
    Calls Try.prog 64 #[.map (some b)] w fun e w' => e = .returned (.map (some w.heap.size)) ∧ w'.ownsMap Try.prog 3 (unitElem (H := Unit)) w.heap.size n D ∧ w.heap.size < w'.heap.size ∧ Below w.heap.size w w' := by
  refine (AnyW.maps_Clone_owns Try.cloneM 3 (unitElem (H := Unit)) b n D w h).mono ?_
  rintro e w' ⟨rfl, h1, _, h2⟩
  exact ⟨rfl, h1, h1.lt, h2⟩

/-- More days. -/
def addD (D : DataW Unit) (l : List Int) : DataW Unit := l.foldl (fun m d => m.put (.int .i64 d) (.agg [])) D
theorem addD_step {D : DataW Unit} {l : List Int} {k : Nat} {d : Int} (h : l[k]? = some d) : addD D (l.take (k + 1)) = (addD D (l.take k)).put (.int .i64 d) (.agg []) := by
  unfold addD
  rw [take_snoc h, List.foldl_append]
  rfl
def errMore (D : DataW Unit) (l : List Int) : Int := if l.any (fun d => !isDayB d) then 17 else if 300 < Maps.size (addD D l) then 2 else 0
/-- A calendar's days behind the closing. -/
def outD (D : DataW Unit) (l : List Int) : DataW Unit := if errMore D l = 0 then addD D l else D
theorem outD_ok {D : DataW Unit} {l : List Int} (h : errMore D l = 0) : outD D l = addD D l := by unfold outD; rw [if_pos h]
theorem outD_no {D : DataW Unit} {l : List Int} {e : Int} (h : errMore D l = e) (h0 : e ≠ 0) : outD D l = D := by unfold outD; rw [if_neg (by rw [h]; exact h0)]

set_option maxHeartbeats 1000000 in
theorem close_any (c : Nat) (D : DataW Unit) (l : List Int) (A : Option Addr) (cp : Nat) (w : World) (hcal : CalAt c D w) (hD : Maps.size D ≤ 300) (hr : Reads w w.heap.size 1 A l.length (ints l)) (hl : l.length ≤ 1000000000)
    (hv : ∀ v ∈ l, -9223372036854775808 ≤ v ∧ v ≤ 9223372036854775807) :
    Calls Try.prog 32 #[.pointer (some ⟨c, 0, none⟩), .slice A l.length cp] w fun e w' => e = .returned (.int .i64 (errMore D l)) ∧ CalAt c (outD D l) w' ∧ Mv [c] [c] w w' := by
  obtain ⟨b, n0, hb, hown0⟩ := hcal
  have hown := own_tightI hown0
  clear hown0
  obtain ⟨s0, hs0⟩ : ∃ s0, Maps.size D = s0 := ⟨_, rfl⟩
  rw [hs0] at hown hD
  clear hs0
  have hc := contains_any l A cp w.heap.size w hr (by omega)
  have q := fun (w : World) (r : Option Nat) => map_nil w r
  have c0 : w.cell? ⟨c, 0, none⟩ = some (.map (some b)) := by rw [Lib.cell_of_heap hb]; rfl
  have hclt : c < w.heap.size := Blk.lt hb
  have HOwn := Lib.hid hown; clear hown
  cases hany : l.any (fun d => !isDayB d)
  · have he : errMore D l = if 300 < Maps.size (addD D l) then 2 else 0 := by unfold errMore; rw [hany]; rfl
    rw [hany] at hc
    obtain ⟨n, hn⟩ : ∃ n, l.length = n := ⟨_, rfl⟩
    rw [hn] at hr hc hl ⊢
    have HC := Lib.hid hc; clear hc
    have Hn := Lib.hid hn; clear hn
    have Hr := Lib.hid hr; clear hr
    have Hv := Lib.hid hv; clear hv
    have HB := Lib.hid hb; clear hb
    have HE := Lib.hid he; clear he hany
    go_enter Try.func32, Try.ntmps32
    go_wp2_with (first
      | (go_at_call 61; refine HC.out.mono ?_; rintro e w' ⟨rfl, rfl⟩)
      | (go_at_call 64; refine (cloneI_any D b s0 _ HOwn.out).mono ?_; rintro e w1 ⟨rfl, hm1, hz1, hb1⟩))
    have hbm : w.heap.size ≠ c := by omega
    have HM1 := Lib.hid hm1; clear hm1
    have HB1 := Lib.hid hb1; clear hb1
    clear c0
    go_loopw [24] (fun i wr => ∃ k : Nat, k ≤ n ∧ i = .int .i64 k ∧ Hid (wr.ownsMap Try.prog 3 (unitElem (H := Unit)) w.heap.size (s0 + k) (addD D (l.take k))) ∧ Hid (Below w.heap.size w wr) ∧ w.heap.size < wr.heap.size) (fun i _ => n - (intOf i).toNat)
    case atStart => exact ⟨0, Nat.zero_le _, rfl, HM1.out, HB1.out, hz1⟩
    case round =>
      obtain ⟨k, hk, rfl, HM, HBl, hml⟩ := hrel
      by_cases hlt : k < n
      · obtain ⟨ad, z, rfl, hab, hzk, hc0⟩ := int_at Hr.out hlt
        have hcell : wr.cell? (ad.add k) = some (.int .i64 z) := by rw [HBl.out.cell (p := ad.add k) (by rw [block_of_add]; exact hab)]; exact hc0
        have hz := Hv.out z (List.mem_of_getElem? hzk)
        have hst := addD_step (D := D) hzk
        have HS := Lib.hid hst; clear hst hzk hc0
        have hown := HM.out
        go_wp2_with (at_mapUpdate; refine wpList_mapUpdate_own _ rfl _ _ _ 122 rfl 3 124 keyLaw Try.underlying122 _ w.heap.size (s0 + k) _ rfl hown (by unfold maxLen; omega) _ _ _ rfl rfl (key_int hz.1 hz.2) _ [] unitElem_mk ?_)
        intro w2 hown1 hgrow1
        have Ho := Lib.hid hown1; clear hown1 hown
        have HB2 : Hid (Below w.heap.size w w2) := HBl.out.grown hgrow1 (by omega) (by intro j hj; cases hj; omega)
        have hz2 := hgrow1.size
        clear hgrow1 hcell
        go_wp2
        go_roundw
        case rel => exact ⟨k + 1, by omega, by go_num, by rw [HS.out]; exact Ho.out, HB2.out, by omega⟩
        case measure => simp [intOf]; omega
      · have hkn : k = n := by omega
        subst hkn
        have hfull : l.take k = l := List.take_of_length_le (by have := Hn.out; omega)
        have hown := HM.out
        rw [hfull] at hown
        obtain ⟨sz, hsz⟩ : ∃ sz, Maps.size (addD D l) = sz := ⟨_, rfl⟩
        have hszle := hown.size_le
        rw [hsz] at hszle
        have hE := HE.out
        rw [hsz] at hE
        have hkc : wr.heap[c]? = some (.cells #[.map (some b)] 126 (0, 0)) := (HBl.out.block c hclt).trans HB.out
        have c0 : wr.cell? ⟨c, 0, none⟩ = some (.map (some b)) := by rw [Lib.cell_of_heap hkc]; rfl
        have f0 : wr.frozen? ⟨c, 0, none⟩ = false := Lib.frozen_of_heap hkc 0
        have HK := Lib.hid hkc; clear hkc
        have Hsz := Lib.hid hsz; clear hsz hfull HM
        have HE2 := Lib.hid hE; clear hE HE
        have hbc : Mv [c] [c] w wr := Mv.of_new HBl.out (fun _ hk => .inl hk)
        by_cases hbig : 300 < sz
        · go_wp2_with (at_len; refine wpList_len_own _ rfl _ 122 rfl 3 124 Try.underlying122 _ w.heap.size (s0 + k) _ rfl hown ?_; rw [Hsz.out])
          go_ret
          refine ⟨ret_int (by rw [HE2.out, if_pos hbig]), ?_, hbc⟩
          rw [outD_no (HE2.out.trans (if_pos hbig)) (by decide)]
          exact CalAt.below ⟨b, s0, HB.out, HOwn.out⟩ HBl.out
        · go_wp2_with (at_len; refine wpList_len_own _ rfl _ 122 rfl 3 124 Try.underlying122 _ w.heap.size (s0 + k) _ rfl hown ?_; rw [Hsz.out])
          go_ret
          refine ⟨ret_int (by rw [HE2.out, if_neg hbig]), ?_, hbc.set_ (by simp) 0 _⟩
          rw [outD_ok (HE2.out.trans (if_neg hbig))]
          exact ⟨w.heap.size, s0 + k, Blk.set_ HK.out 0 _, hown.setCell (a := ⟨c, 0, none⟩) hbm _⟩
  · have he : errMore D l = 17 := by unfold errMore; rw [hany]; rfl
    rw [hany] at hc
    have HC := Lib.hid hc; clear hc
    rw [he, outD_no he (by decide)]
    clear he hany hr hv
    have HB := Lib.hid hb; clear hb
    go_enter Try.func32, Try.ntmps32
    go_wp2_with (go_at_call 61; refine HC.out.mono ?_; rintro e w' ⟨rfl, rfl⟩)
    go_ret
    exact ⟨rfl, ⟨b, s0, HB.out, HOwn.out⟩, Mv.refl _ _⟩
end Go.Proofs.Ytkcecijepbceiaa
