/-
  The walk of InstOwes: what is left, and what is to be paid.
  Conditions: an instruction, a number.
-/
import Derived.Test.YtkcecijepbceiaaRefOwes
import Derived.Deep.RegionHeld3
namespace Go.Proofs.Ytkcecijepbceiaa
open Go.RowKit

set_option maxHeartbeats 4000000 in
set_option maxRecDepth 100000 in
theorem refLeft_any (id : Int) (p a m o : ByteArray) (dl : Bool) (ss c r : ByteArray) (q am dy td pr : Int) (part held wish : Bool) (st ma dn pd : Int) (hq : In64 q) (hd : In64 dn) (w : World) :
    Calls Try.prog 14 #[.agg #[.int .i64 id, .string p, .string a, .string m, .string o, .bool dl, .string ss, .string c, .string r, .int .i64 q, .int .i64 am, .int .i64 dy, .int .i64 td, .int .i64 pr, .bool part, .bool held, .bool wish, .int .i64 st, .int .i64 ma, .int .i64 dn, .int .i64 pd]] w fun e w' => e = .returned (.int .i64 (Ow.left q dn)) ∧ Below w.heap.size w w' := by
  obtain ⟨q1, q2⟩ := hq
  obtain ⟨d1, d2⟩ := hd
  by_cases hbad : dn < 0 ∨ q < dn
  · have he : Ow.left q dn = 0 := by unfold Ow.left; rw [if_pos hbad]
    rw [he]
    clear he
    rcases (show dn < 0 ∨ (0 ≤ dn ∧ q < dn) by omega) with h | ⟨h, h'⟩
    all_goals
      clear hbad
      go_enter Try.func14, Try.ntmps14
      go_wp2
      go_ret
      exact ⟨rfl, (Below.refl _ _).alloc (Nat.le_refl _) _⟩
  · have he : Ow.left q dn = q - dn := by unfold Ow.left; rw [if_neg hbad]
    rw [he]
    have d0 : decide (dn < 0) = false := decide_eq_false (by omega)
    have d3 : decide (q < dn) = false := decide_eq_false (by omega)
    have d4 : 0 ≤ dn := by omega
    have d5 : dn ≤ q := by omega
    clear he hbad
    go_enter Try.func14, Try.ntmps14
    go_wp2
    go_ret
    exact ⟨rfl, (Below.refl _ _).alloc (Nat.le_refl _) _⟩
theorem ow_bad {q a d p n : Int} (h : d < 0 ∨ p < 0 ∨ n < 0 ∨ Ow.left q d < n) : Ow.owE q a d p n = 1 ∧ Ow.owV q a d p n = 0 := by
  have he : Ow.owE q a d p n = 1 := by
    unfold Ow.owE
    by_cases hb : n < 0 ∨ Ow.left q d < n ∨ p < 0
    · rw [if_pos hb]
    · rw [if_neg hb]
      have hd : d < 0 := by omega
      have hl : Ow.left q d = 0 := by unfold Ow.left; rw [if_pos (.inl hd)]
      have hs : Ow.shE a (d + n) q = 1 := by unfold Ow.shE; rw [if_pos (.inl (by omega))]
      rw [hs]
      rfl
  exact ⟨he, by unfold Ow.owV; rw [he]; rfl⟩
theorem ow_good {q a d p n : Int} (h : ¬ (d < 0 ∨ p < 0 ∨ n < 0 ∨ Ow.left q d < n)) : (Ow.shE a (d + n) q ≠ 0 → Ow.owE q a d p n = Ow.shE a (d + n) q ∧ Ow.owV q a d p n = 0) ∧ (Ow.shE a (d + n) q = 0 → Ow.shV a (d + n) q < p → Ow.owE q a d p n = 1 ∧ Ow.owV q a d p n = 0) ∧ (Ow.shE a (d + n) q = 0 → ¬ Ow.shV a (d + n) q < p → Ow.owE q a d p n = 0 ∧ Ow.owV q a d p n = Ow.shV a (d + n) q - p) := by
  have hb : ¬ (n < 0 ∨ Ow.left q d < n ∨ p < 0) := by omega
  refine ⟨fun h1 => ?_, fun h1 h2 => ?_, fun h1 h2 => ?_⟩
  · have he : Ow.owE q a d p n = Ow.shE a (d + n) q := by unfold Ow.owE; rw [if_neg hb, if_pos h1]
    exact ⟨he, by unfold Ow.owV; rw [he, if_neg h1]⟩
  · have he : Ow.owE q a d p n = 1 := by unfold Ow.owE; rw [if_neg hb, if_neg (by omega), if_pos h2]
    exact ⟨he, by unfold Ow.owV; rw [he]; rfl⟩
  · have he : Ow.owE q a d p n = 0 := by unfold Ow.owE; rw [if_neg hb, if_neg (by omega), if_neg h2]
    exact ⟨he, by unfold Ow.owV; rw [he, if_pos rfl]⟩
set_option maxHeartbeats 8000000 in
set_option maxRecDepth 100000 in
theorem refOwes_any (id : Int) (p a m o : ByteArray) (dl : Bool) (ss c r : ByteArray) (q am dy td pr : Int) (part held wish : Bool) (st ma dn pd : Int) (n : Int) (hq : In64 q) (ha : In64 am) (hd : In64 dn) (hp : In64 pd) (hn : In64 n) (w : World) :
    Calls Try.prog 11 #[.agg #[.int .i64 id, .string p, .string a, .string m, .string o, .bool dl, .string ss, .string c, .string r, .int .i64 q, .int .i64 am, .int .i64 dy, .int .i64 td, .int .i64 pr, .bool part, .bool held, .bool wish, .int .i64 st, .int .i64 ma, .int .i64 dn, .int .i64 pd], .int .i64 n] w fun e w' => e = .returned (.tuple #[.int .i64 (Ow.owV q am dn pd n), .int .i64 (Ow.owE q am dn pd n)]) ∧ Below w.heap.size w w' := by
  have hk : (w.alloc (.cells #[.int .i64 id, .string p, .string a, .string m, .string o, .bool dl, .string ss, .string c, .string r, .int .i64 q, .int .i64 am, .int .i64 dy, .int .i64 td, .int .i64 pr, .bool part, .bool held, .bool wish, .int .i64 st, .int .i64 ma, .int .i64 dn, .int .i64 pd] 25)).heap[w.heap.size]? = some (.cells #[.int .i64 id, .string p, .string a, .string m, .string o, .bool dl, .string ss, .string c, .string r, .int .i64 q, .int .i64 am, .int .i64 dy, .int .i64 td, .int .i64 pr, .bool part, .bool held, .bool wish, .int .i64 st, .int .i64 ma, .int .i64 dn, .int .i64 pd] 25 (0, 0)) := heap_alloc_new _ _
  have HK := Lib.hid hk
  have HBW : Hid (Below w.heap.size w (w.alloc (.cells #[.int .i64 id, .string p, .string a, .string m, .string o, .bool dl, .string ss, .string c, .string r, .int .i64 q, .int .i64 am, .int .i64 dy, .int .i64 td, .int .i64 pr, .bool part, .bool held, .bool wish, .int .i64 st, .int .i64 ma, .int .i64 dn, .int .i64 pd] 25))) := (Below.refl _ _).alloc (Nat.le_refl _) _
  clear hk
  have HLF := Lib.hid (fun W => refLeft_any id p a m o dl ss c r q am dy td pr part held wish st ma dn pd hq hd W)
  by_cases hbad : dn < 0 ∨ pd < 0 ∨ n < 0 ∨ Ow.left q dn < n
  · have HE := Lib.hid (ow_bad (a := am) hbad)
    by_cases h1 : dn < 0
    · clear hbad
      go_enter Try.func11, Try.ntmps11
      go_wp2
      go_ret2
      rw [HE.out.1, HE.out.2]
      exact ⟨rfl, HBW.out⟩
    by_cases h2 : pd < 0
    · have d1 : decide (dn < 0) = false := decide_eq_false h1
      clear hbad
      go_enter Try.func11, Try.ntmps11
      go_wp2
      go_ret2
      rw [HE.out.1, HE.out.2]
      exact ⟨rfl, HBW.out⟩
    by_cases h3 : n < 0
    · have d1 : decide (dn < 0) = false := decide_eq_false h1
      have d2 : decide (pd < 0) = false := decide_eq_false h2
      clear hbad
      go_enter Try.func11, Try.ntmps11
      go_wp2
      go_ret2
      rw [HE.out.1, HE.out.2]
      exact ⟨rfl, HBW.out⟩
    have h4 : Ow.left q dn < n := by omega
    obtain ⟨L, hL⟩ : ∃ L, Ow.left q dn = L := ⟨_, rfl⟩
    rw [hL] at h4 HLF
    have d1 : decide (dn < 0) = false := decide_eq_false h1
    have d2 : decide (pd < 0) = false := decide_eq_false h2
    have d3 : decide (n < 0) = false := decide_eq_false h3
    clear hbad hL
    go_enter Try.func11, Try.ntmps11
    go_wp2_with (refine wpList_load_named rfl 25 _ rfl w.heap.size rfl _ _ _ HK.out Try.underlying25 rfl size_inst _ rfl ?_)
    refine (HLF.out _).mono ?_
    rintro e w1 ⟨rfl, hb1⟩
    have HB1 := Lib.hid (HBW.out.trans (hb1.mono HBW.out.size))
    clear hb1
    go_wp2
    go_ret2
    rw [HE.out.1, HE.out.2]
    exact ⟨rfl, HB1.out⟩
  · have HG := Lib.hid (ow_good (a := am) hbad)
    have h1 : ¬ dn < 0 := fun h => hbad (.inl h)
    have h2 : ¬ pd < 0 := fun h => hbad (.inr (.inl h))
    have h3 : ¬ n < 0 := fun h => hbad (.inr (.inr (.inl h)))
    have h4 : ¬ Ow.left q dn < n := fun h => hbad (.inr (.inr (.inr h)))
    have h5 : dn + n ≤ 9223372036854775807 := by
      have hl : Ow.left q dn = if dn < 0 ∨ q < dn then 0 else q - dn := rfl
      have := hq.2
      have := hd.2
      split at hl <;> omega
    have h6 : 0 ≤ dn := by omega
    have h7 : 0 ≤ n := by omega
    have hsh := rshare_any am (dn + n) q ha.1 ha.2 (by omega) h5 hq.1 hq.2
    have hn2 := hn.2
    have hp2 := hp.2
    obtain ⟨L, hL⟩ : ∃ L, Ow.left q dn = L := ⟨_, rfl⟩
    rw [hL] at h4 HLF
    obtain ⟨SV, hSV⟩ : ∃ SV, Ow.shV am (dn + n) q = SV := ⟨_, rfl⟩
    obtain ⟨SE, hSE⟩ : ∃ SE, Ow.shE am (dn + n) q = SE := ⟨_, rfl⟩
    have hrg : SE = 0 → 0 ≤ SV ∧ SV ≤ 1152921504606846976 := by
      rw [← hSV, ← hSE]
      exact Ow.shV_range
    rw [hSV, hSE] at hsh HG
    have HSH := Lib.hid hsh
    have HRG := Lib.hid hrg
    have d1 : decide (dn < 0) = false := decide_eq_false h1
    have d2 : decide (pd < 0) = false := decide_eq_false h2
    have d3 : decide (n < 0) = false := decide_eq_false h3
    have d4 : decide (L < n) = false := decide_eq_false h4
    clear hbad hL hSV hSE hsh hrg hq ha hd hp hn
    go_enter Try.func11, Try.ntmps11
    go_wp2_with (refine wpList_load_named rfl 25 _ rfl w.heap.size rfl _ _ _ HK.out Try.underlying25 rfl size_inst _ rfl ?_)
    refine (HLF.out _).mono ?_
    rintro e w1 ⟨rfl, hb1⟩
    have HB1 := Lib.hid (HBW.out.trans (hb1.mono HBW.out.size))
    have hk1 := (hb1.block w.heap.size (by simp)).trans HK.out
    have HK1 := Lib.hid hk1
    clear hb1 hk1
    obtain ⟨b1, hb1⟩ : ∃ b1, w.heap.size = b1 := ⟨_, rfl⟩
    have HBB := Lib.hid hb1
    rw [hb1] at HK1 ⊢
    clear hb1 HK HBW HLF
    have k9 : w1.cell? ⟨b1, 9, none⟩ = some (.int .i64 q) := by rw [Lib.cell_of_heap HK1.out]; rfl
    have k10 : w1.cell? ⟨b1, 10, none⟩ = some (.int .i64 am) := by rw [Lib.cell_of_heap HK1.out]; rfl
    have k19 : w1.cell? ⟨b1, 19, none⟩ = some (.int .i64 dn) := by rw [Lib.cell_of_heap HK1.out]; rfl
    go_wp2_with fail
    refine (HSH.out _).mono ?_
    rintro e w2 ⟨rfl, hb2⟩
    have HB2 := Lib.hid (HB1.out.trans (hb2.mono HB1.out.size))
    have k20 : w2.cell? ⟨b1, 20, none⟩ = some (.int .i64 pd) := by rw [Lib.cell_of_heap ((hb2.block b1 (Blk.lt (t := 25) HK1.out)).trans HK1.out)]; rfl
    clear hb2 HB1 HK1 k9 k10 k19 HSH
    by_cases he : SE = 0
    · have hr := HRG.out he
      obtain ⟨hr1, hr2⟩ := hr
      by_cases hv : SV < pd
      · have HE := Lib.hid (HG.out.2.1 he (by omega))
        subst he
        clear HG HRG
        go_wp2
        go_ret2
        rw [HE.out.1, HE.out.2]
        exact ⟨rfl, HB2.out⟩
      · have HE := Lib.hid (HG.out.2.2 he (by omega))
        have hv2 : pd ≤ SV := by omega
        have hp0 : 0 ≤ pd := by omega
        subst he
        clear HG HRG
        go_wp2
        go_ret2
        rw [HE.out.1, HE.out.2]
        exact ⟨rfl, HB2.out⟩
    · have HE := Lib.hid (HG.out.1 he)
      have he2 : (SE != 0) = true := by simp [he]
      clear HG HRG
      go_wp2
      go_ret2
      rw [HE.out.1, HE.out.2]
      exact ⟨rfl, HB2.out⟩
end Go.Proofs.Ytkcecijepbceiaa
