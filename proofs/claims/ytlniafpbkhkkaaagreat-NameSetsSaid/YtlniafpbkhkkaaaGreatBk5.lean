/-
  The book with lists of texts: is each list marked with marks of its own?
  Conditions: lists that nobody else holds.
-/
import Derived.Test.YtlniafpbkhkkaaaGreatBk4
namespace Go.Proofs.YtlniafpbkhkkaaaGreat
open Go.RowKit
attribute [local go_sem ↓] Go.wp_at_zero Go.wp_at_succ
set_option maxRecDepth 100000

theorem same_marks (i m : Nat) (ss : List ByteArray) (hs : ss = marks i 0 m) (A A' : Option Addr) (c c' B : Nat) (w : World) (hr : Reads w B 1 A m (strs ss)) (hr' : Reads w B 1 A' m (strs (marks i 0 m))) (hl : m ≤ 9223372036854775807) :
    Calls Tryz.prog 9 #[.slice A m c, .slice A' m c'] w fun e w' => e = .returned (.bool true) ∧ ∃ q, w' = w.drewN q := by
  subst hs
  have h := same_any (marks i 0 m) (marks i 0 m) A A' c c' B w (by rw [marks_len]; exact hr) (by rw [marks_len]; exact hr') (by rw [marks_len]; exact hl) (by rw [marks_len]; exact hl)
  rw [marks_len, sameB_self] at h
  exact h
set_option maxHeartbeats 4000000 in
theorem marked_any (B B' : Nat) (tv : Value) (L : List (Value × List ByteArray)) (w : World) (hw : w.ownsRow B 22 1 tv L.length (L.map Prod.fst)) (hL : L.length ≤ 250)
    (hr : ∀ r ∈ L, w.ownsRow B' 9 1 r.1 r.2.length (strs r.2) ∧ r.2.length ≤ 100000000)
    (hm : ∀ k r, L[k]? = some r → r.2 = marks k 0 r.2.length) :
    Calls Tryz.prog 80 #[tv] w fun e w' => e = .returned (.bool true) ∧ Below w.heap.size w w' := by
  obtain ⟨A1, c1, rfl, hc1⟩ := own_form hw
  obtain ⟨n, hn⟩ : ∃ n, L.length = n := ⟨_, rfl⟩
  rw [hn] at hL hc1 hw ⊢
  have HR := Lib.hid hr; have HM := Lib.hid hm; have HN := Lib.hid hn; have HW := Lib.hid hw
  clear hr hm hn hw
  go_enter Tryz.func80, Tryz.ntmps80
  go_wp2
  go_loopw [3] (fun i wr => ∃ k : Nat, k ≤ n ∧ i = .int .i64 k ∧ Hid (Below w.heap.size w wr)) (fun i _ => n - (intOf i).toNat)
  case atStart => exact ⟨0, Nat.zero_le _, rfl, Below.refl _ _⟩
  case round =>
    obtain ⟨k, hk, rfl, HB⟩ := hrel
    by_cases hlt : k < n
    · have hot := own_below HW.out HB.out (fun k hk => (HW.out.lt k hk).2)
      obtain ⟨q, hq⟩ : ∃ q, A1 = some ⟨q, 0, none⟩ := by
        obtain ⟨q, c, e, _, _⟩ := hot.form (by omega)
        injection e with e _ _
        exact ⟨q, e⟩
      subst hq
      have hkL : k < L.length := by have := HN.out; omega
      have hrk : L[k]? = some L[k] := List.getElem?_eq_getElem hkL
      obtain ⟨r, hrr⟩ : ∃ r, L[k]? = some r := ⟨_, hrk⟩
      obtain ⟨ho, hl⟩ := HR.out r (List.mem_of_getElem? hrr)
      have hmk := HM.out k r hrr
      have d0 : wr.cell? ⟨q, k, none⟩ = some r.1 := by
        have := hot.cellAt k (by omega)
        rw [List.getElem?_map, hrr] at this
        exact this
      have ho2 := own_below ho HB.out (fun k hk => (ho.lt k hk).2)
      obtain ⟨A3, c3, hrv, hc3⟩ := own_form ho
      obtain ⟨m, hm⟩ : ∃ m, r.2.length = m := ⟨_, rfl⟩
      rw [hm] at hl hrv hc3 hmk ho2
      rw [hrv] at d0 ho2
      have hqlt : q < wr.heap.size := (hot.lt q rfl).2
      have b1 : (0 : Int) ≤ (k : Int) := by omega
      have b2 : (k : Int) < (n : Int) := by omega
      have qm := markTexts_any k 0 m (by omega) (by omega) (by omega)
      have HO2 := Lib.hid ho2
      have HMK := Lib.hid hmk
      clear hrk hrr ho hot ho2 hrv hm hmk
      go_wp2
      go_region_held3 (fun W => W.cell? ⟨q, k, none⟩ = some (.slice A3 m c3))
        (first | exact d0 | exact d1 | exact d2)
        (first
          | (go_at_call 122; refine (qm _).mono ?_; rintro e w5 ⟨v5, rfl, ho5, hb5⟩; have d1 : w5.cell? ⟨q, k, none⟩ = some (.slice A3 m c3) := (hb5.cell (show q < _ from hqlt)).trans d0; obtain ⟨A5, c5, rfl, hc5⟩ := own_form ho5; have hb5' : Below wr.heap.size wr w5 := (by first | exact hb5 | exact (Below.refl wr.heap.size wr).drew.trans hb5); have ho6 := own_below HO2.out hb5' (fun k hk => (HO2.out.lt k hk).2))
          | (go_at_call 9; (with_reducible refine (same_marks k m r.2 HMK.out A3 A5 c3 c5 w5.heap.size w5 (Reads.of_own ho6) (Reads.of_own ho5) (by omega)).mono ?_); rintro e w6 ⟨rfl, qq, rfl⟩; have d2 : (w5.drewN qq).cell? ⟨q, k, none⟩ = some (.slice A3 m c3) := d1))
      all_goals
        go_wp2
        exact ⟨⟨k + 1, hlt, by go_num, drewN_below (HB.out.trans ⟨hb5'.os, hb5'.tape, hb5'.output, hb5'.size, fun g hg => hb5'.block g (Nat.lt_of_lt_of_le hg HB.out.size)⟩) qq⟩, by simp [intOf]; omega⟩
    · obtain rfl : k = n := by omega
      go_wp2
      go_ret
      exact ⟨rfl, HB.out⟩
end Go.Proofs.YtlniafpbkhkkaaaGreat
