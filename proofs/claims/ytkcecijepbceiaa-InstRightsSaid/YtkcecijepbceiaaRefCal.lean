/-
  Package cal as contracts where only New and Is are reached: a calendar closed anew; a new one.
  Conditions: ints; what is handed in lies in memory of the call's own ahead.
-/
import Derived.Test.YtkcecijepbceiaaCal2
namespace Go.Proofs.Ytkcecijepbceiaa
open Go.RowKit Go.Maps

/-- What closing days on a fresh calendar tells. -/
def errNew (l : List Int) : Int := if l.any (fun d => !isDayB d) then 17 else if 300 < Maps.size (setD l) then 2 else 0
def IfOk (e : Int) (P : Prop) : Prop := e = 0 → P
theorem ifOk_no {e : Int} {P : Prop} (h : e ≠ 0) : IfOk e P := fun h' => absurd h' h
theorem ifOk_yes {e : Int} {P : Prop} (h : P) : IfOk e P := fun _ => h
theorem setD_step {l : List Int} {k : Nat} {d : Int} (h : l[k]? = some d) : setD (l.take (k + 1)) = (setD (l.take k)).put (.int .i64 d) (.agg []) := by
  unfold setD
  rw [take_snoc h, List.map_append]
  exact setOf_snoc _ _ _

set_option maxHeartbeats 1000000 in
theorem close_new (c : Nat) (l : List Int) (A : Option Addr) (cp : Nat) (w : World) (hb : w.heap[c]? = some (.cells #[.map none] 126 (0, 0))) (hr : Reads w c 1 A l.length (ints l)) (hl : l.length ≤ 9223372036854775807)
    (hv : ∀ v ∈ l, -9223372036854775808 ≤ v ∧ v ≤ 9223372036854775807) :
    Calls Try.prog 32 #[.pointer (some ⟨c, 0, none⟩), .slice A l.length cp] w fun e w' => e = .returned (.int .i64 (errNew l)) ∧ IfOk (errNew l) (CalAt c (setD l) w') ∧ Below c w w' := by
  have hc := contains_any l A cp c w hr hl
  have hmm := @run_makeMap Try.prog
  have q := fun (w : World) (r : Option Nat) => map_nil w r
  have c0 : w.cell? ⟨c, 0, none⟩ = some (.map none) := by rw [Lib.cell_of_heap hb]; rfl
  have hclt : c < w.heap.size := Blk.lt hb
  cases hany : l.any (fun d => !isDayB d)
  · have he : errNew l = if 300 < Maps.size (setD l) then 2 else 0 := by unfold errNew; rw [hany]; rfl
    rw [hany] at hc
    obtain ⟨n, hn⟩ : ∃ n, l.length = n := ⟨_, rfl⟩
    rw [hn] at hr hc hl ⊢
    have HC := Lib.hid hc; clear hc
    have Hn := Lib.hid hn; clear hn
    have Hr := Lib.hid hr; clear hr
    have Hv := Lib.hid hv; clear hv
    have HB := Lib.hid hb; clear hb
    have HE := Lib.hid he; clear he hany
    go_enter Try.func32, Try.ntmps32
    go_wp2_with (first
      | (go_at_call 61; refine HC.out.mono ?_; rintro e w' ⟨rfl, rfl⟩)
      | (go_at_call 64; refine (clone_nil _).mono ?_; rintro e w' ⟨rfl, rfl⟩))
    have hbm : w.heap.size ≠ c := by omega
    go_loopw [24] (fun i wr => ∃ k : Nat, k ≤ n ∧ i = .int .i64 k ∧ Hid (wr.ownsMap Try.prog 3 (unitElem (H := Unit)) w.heap.size k (setD (l.take k))) ∧ Hid (wr.heap[c]? = some (.cells #[.map none] 126 (0, 0))) ∧ Hid (Below c w wr)) (fun i _ => n - (intOf i).toNat)
    case atStart => exact ⟨0, Nat.zero_le _, rfl, World.ownsMap_made _ _ _ _, (Below.heap_alloc w _ c hclt).trans HB.out, (Below.refl _ _).alloc (Nat.le_of_lt hclt) _⟩
    case round =>
      obtain ⟨k, hk, rfl, HM, HK, HBl⟩ := hrel
      have hml := HM.out.lt
      clear c0
      by_cases hlt : k < n
      · obtain ⟨ad, z, rfl, hab, hzk, hc0⟩ := int_at Hr.out hlt
        have hcell : wr.cell? (ad.add k) = some (.int .i64 z) := by rw [HBl.out.cell (p := ad.add k) (by rw [block_of_add]; exact hab)]; exact hc0
        have hz := Hv.out z (List.mem_of_getElem? hzk)
        have hst := setD_step hzk
        have HS := Lib.hid hst; clear hst hzk hc0
        have hown := HM.out
        go_wp2_with (at_mapUpdate; refine wpList_mapUpdate_own _ rfl _ _ _ 122 rfl 3 124 keyLaw Try.underlying122 _ w.heap.size k _ rfl hown (by unfold maxLen; omega) _ _ _ rfl rfl (key_int hz.1 hz.2) _ [] unitElem_mk ?_)
        intro w1 hown1 hgrow1
        have Ho := Lib.hid hown1; clear hown1 hown
        have HK1 : Hid (w1.heap[c]? = some (.cells #[.map none] 126 (0, 0))) := (hgrow1.block c (Blk.lt HK.out) (by intro h; injection h with h; exact hbm h.symm)).trans HK.out
        have HB1 : Hid (Below c w w1) := HBl.out.grown hgrow1 (by have := HBl.out.size; omega) (by intro j hj; cases hj; omega)
        clear hgrow1 hcell
        go_wp2
        go_roundw
        case rel => exact ⟨k + 1, by omega, by go_num, by rw [HS.out]; exact Ho.out, HK1.out, HB1.out⟩
        case measure => simp [intOf]; omega
      · have hkn : k = n := by omega
        subst hkn
        have hfull : l.take k = l := List.take_of_length_le (by have := Hn.out; omega)
        have hown := HM.out
        rw [hfull] at hown
        obtain ⟨sz, hsz⟩ : ∃ sz, Maps.size (setD l) = sz := ⟨_, rfl⟩
        have hszle := hown.size_le
        rw [hsz] at hszle
        have hE := HE.out
        rw [hsz] at hE
        have c0 : wr.cell? ⟨c, 0, none⟩ = some (.map none) := by rw [Lib.cell_of_heap HK.out]; rfl
        have f0 : wr.frozen? ⟨c, 0, none⟩ = false := Lib.frozen_of_heap HK.out 0
        have Hsz := Lib.hid hsz; clear hsz hfull HM
        have HE2 := Lib.hid hE; clear hE HE
        by_cases hbig : 300 < sz
        · go_wp2_with (at_len; refine wpList_len_own _ rfl _ 122 rfl 3 124 Try.underlying122 _ w.heap.size k _ rfl hown ?_; rw [Hsz.out])
          go_ret
          exact ⟨ret_int (by rw [HE2.out, if_pos hbig]), ifOk_no (by rw [HE2.out, if_pos hbig]; decide), HBl.out⟩
        · go_wp2_with (at_len; refine wpList_len_own _ rfl _ 122 rfl 3 124 Try.underlying122 _ w.heap.size k _ rfl hown ?_; rw [Hsz.out])
          go_ret
          refine ⟨ret_int (by rw [HE2.out, if_neg hbig]), ifOk_yes ⟨w.heap.size, k, ?_, hown.setCell (a := ⟨c, 0, none⟩) hbm _⟩, HBl.out.setCell (p := ⟨c, 0, none⟩) (Nat.le_refl _) _⟩
          exact Blk.set_ HK.out 0 _
  · have he : errNew l = 17 := by unfold errNew; rw [hany]; rfl
    rw [hany] at hc
    have HC := Lib.hid hc; clear hc
    rw [he]
    clear he hany hr hv
    go_enter Try.func32, Try.ntmps32
    go_wp2_with (go_at_call 61; refine HC.out.mono ?_; rintro e w' ⟨rfl, rfl⟩)
    go_ret
    exact ⟨rfl, ifOk_no (by decide), Below.refl _ _⟩

set_option maxHeartbeats 1000000 in
theorem new_any (l : List Int) (A : Option Addr) (cp : Nat) (w : World) (hr : Reads w w.heap.size 1 A l.length (ints l)) (hl : l.length ≤ 9223372036854775807)
    (hv : ∀ v ∈ l, -9223372036854775808 ≤ v ∧ v ≤ 9223372036854775807) :
    Calls Try.prog 85 #[.slice A l.length cp] w fun e w' => e = .returned (.tuple #[.pointer (if errNew l = 0 then some ⟨w.heap.size, 0, none⟩ else none), .int .i64 (errNew l)]) ∧ IfOk (errNew l) (CalAt w.heap.size (setD l) w') ∧ Below w.heap.size w w' := by
  have hk : (w.alloc (.cells #[.map none] 126)).heap[w.heap.size]? = some (.cells #[.map none] 126 (0, 0)) := heap_alloc_new w _
  have hc := close_new w.heap.size l A cp (w.alloc (.cells #[.map none] 126)) hk (hr.alloc (Nat.le_refl _) _) hl hv
  obtain ⟨E, hE⟩ : ∃ E, errNew l = E := ⟨_, rfl⟩
  rw [hE] at hc ⊢
  obtain ⟨n, hn⟩ : ∃ n, l.length = n := ⟨_, rfl⟩
  rw [hn] at hc ⊢
  have HC := Lib.hid hc; clear hc hk hr hl hv hn
  have HE := Lib.hid hE; clear hE
  have hb0 : Below w.heap.size w (w.alloc (.cells #[.map none] 126)) := (Below.refl _ _).alloc (Nat.le_refl _) _
  by_cases h0 : E = 0
  · subst h0
    rw [if_pos rfl]
    go_enter Try.func85, Try.ntmps85
    go_wp2_with (go_at_call 32; refine HC.out.mono ?_; rintro e w' ⟨rfl, hok, hb⟩)
    go_ret2
    exact ⟨rfl, hok, hb0.trans hb⟩
  · rw [if_neg h0]
    have hne : (E != 0) = true := by simp [h0]
    have H0 := Lib.hid h0; clear h0
    go_enter Try.func85, Try.ntmps85
    go_wp2_with (go_at_call 32; refine HC.out.mono ?_; rintro e w' ⟨rfl, hok, hb⟩)
    go_ret2
    exact ⟨rfl, hok, hb0.trans hb⟩
end Go.Proofs.Ytkcecijepbceiaa
