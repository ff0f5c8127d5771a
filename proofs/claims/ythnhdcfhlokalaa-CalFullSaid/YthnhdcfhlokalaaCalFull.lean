/-
  The walk of CalFull: all of several days are holidays behind Close, or none of them.
  Conditions: ints, in lists that the call reads.
-/
import Derived.Test.YthnhdcfhlokalaaCalFullPlain
namespace Go.Proofs.Ythnhdcfhlokalaa
open Go.RowKit Go.Maps

set_option maxHeartbeats 2000000 in
set_option maxRecDepth 100000 in
theorem full_bad (l m : List Int) (A A' : Option Addr) (cp cp' : Nat) (w : World) (hr : Reads w w.heap.size 1 A l.length (ints l)) (hl : l.length ≤ 9223372036854775807) (hm : m.length ≤ 9223372036854775807) (hv : ∀ v ∈ l, -9223372036854775808 ≤ v ∧ v ≤ 9223372036854775807)
    (h : errNew l ≠ 0 ∨ (errNew l = 0 ∧ (300 < l.length ∨ (l.length ≤ 300 ∧ 400 < m.length)))) :
    Calls Try.prog 6 #[.slice A l.length cp, .slice A' m.length cp'] w fun e w' => e = .returned (.bool true) ∧ Below w.heap.size w w' := by
  have hn := new_any l A cp w hr hl hv
  obtain ⟨E, hE⟩ : ∃ E, errNew l = E := ⟨_, rfl⟩
  rw [hE] at hn h
  clear hr hv hE
  obtain ⟨k, hk⟩ : ∃ k, l.length = k := ⟨_, rfl⟩
  rw [hk] at hn h hl ⊢
  clear hk
  obtain ⟨k', hk'⟩ : ∃ k', m.length = k' := ⟨_, rfl⟩
  rw [hk'] at h hm ⊢
  clear hk'
  rcases h with h | ⟨rfl, h⟩
  · rw [if_neg h] at hn
    have hne : (E != 0) = true := by simp [h]
    have HN := Lib.hid hn; clear hn
    have H := Lib.hid h; clear h
    go_enter Try.func6, Try.ntmps6
    go_wp2_with fail
    refine HN.out.mono ?_
    rintro e w1 ⟨rfl, _, hb1⟩
    go_wp2_with fail
    refine (alive8_any _).mono ?_
    rintro e w2 ⟨rfl, hb2⟩
    go_wp2
    go_ret
    exact ⟨rfl, hb1.trans (hb2.mono hb1.size)⟩
  · rw [if_pos rfl] at hn
    have HN := Lib.hid hn; clear hn
    rcases h with h | ⟨h1, h⟩
    all_goals
      go_enter Try.func6, Try.ntmps6
      go_wp2_with fail
      refine HN.out.mono ?_
      rintro e w1 ⟨rfl, _, hb1⟩
      go_wp2_with fail
      refine (alive8_any _).mono ?_
      rintro e w2 ⟨rfl, hb2⟩
      go_wp2
      go_ret
      exact ⟨rfl, hb1.trans (hb2.mono hb1.size)⟩

set_option maxHeartbeats 4000000 in
set_option maxRecDepth 100000 in
theorem full_good (l m : List Int) (A A' : Option Addr) (cp cp' : Nat) (w : World) (hr : Reads w w.heap.size 1 A l.length (ints l)) (hr' : Reads w w.heap.size 1 A' m.length (ints m)) (hv : ∀ v ∈ l, -9223372036854775808 ≤ v ∧ v ≤ 9223372036854775807) (hv' : ∀ v ∈ m, -9223372036854775808 ≤ v ∧ v ≤ 9223372036854775807)
    (hE : errNew l = 0) (h1 : l.length ≤ 300) (h2 : m.length ≤ 400) :
    Calls Try.prog 6 #[.slice A l.length cp, .slice A' m.length cp'] w fun e w' => e = .returned (.bool true) ∧ Below w.heap.size w w' := by
  have hn := new_any l A cp w hr (by omega) hv
  rw [hE, if_pos rfl] at hn
  have hg := good_set l
  have hs := size_set l
  have hg1 := good_add hg m
  have hsa := size_add hg m
  have hlen0 := hol_size hg
  have hlen1 := hol_size hg1
  have hmo : ∀ d, d ∈ m → isB (addD (setD l) m) d = false := fun d hd => isB_more hg hd
  have hok0 := fun h => @errMore_ok (setD l) m h
  have herr := errMore_is (setD l) m
  obtain ⟨k, hk⟩ : ∃ k, l.length = k := ⟨_, rfl⟩
  rw [hk] at hn h1 hs ⊢
  generalize setD l = D at *
  clear hr hv hE hk
  obtain ⟨k', hk'⟩ : ∃ k', m.length = k' := ⟨_, rfl⟩
  rw [hk'] at h2 hsa
  obtain ⟨D1, hD1⟩ : ∃ D1, addD D m = D1 := ⟨_, rfl⟩
  rw [hD1] at hg1 hsa hlen1 hmo hok0
  obtain ⟨n0, hn0⟩ : ∃ n0, (hol D).length = n0 := ⟨_, rfl⟩
  obtain ⟨n1, hn1⟩ : ∃ n1, (hol D1).length = n1 := ⟨_, rfl⟩
  rw [hn0] at hlen0
  rw [hn1] at hlen1
  have hb0 : n0 ≤ n1 := by omega
  have hD0 : Maps.size D ≤ 300 := by omega
  have hD10 : Maps.size D1 ≤ 1000 := by omega
  have hn1b : errMore D m = 0 → n1 ≤ 300 := fun h => by have := hok0 h; omega
  obtain ⟨E, hEm⟩ : ∃ E, errMore D m = E := ⟨_, rfl⟩
  have hD1' : E = 0 → outD D m = D1 := fun h => by rw [← hD1]; exact outD_ok (hEm.trans h)
  have hD0' : E ≠ 0 → outD D m = D := fun h => outD_no hEm h
  rw [hEm] at herr hn1b
  have HN := Lib.hid hn; have HEm := Lib.hid hEm; have HO1 := Lib.hid hD1'; have HO0 := Lib.hid hD0'; have HN0 := Lib.hid hn0; have HN1 := Lib.hid hn1; have HMo := Lib.hid hmo; have HB1' := Lib.hid hn1b; have HG1 := Lib.hid hg1
  have Hr' := Lib.hid hr'; have Hv' := Lib.hid hv'; have HK' := Lib.hid hk'
  clear hn hEm hD1' hD0' hn0 hn1 hmo hn1b hg hg1 hok0 hsa hlen0 hlen1 hD1 hs hr' hv'
  rw [hk']
  clear hk'
  have b1 : decide (300 < k) = false := by simp; omega
  have b2 : decide (400 < k') = false := by simp; omega
  go_enter Try.func6, Try.ntmps6
  go_wp2_with fail
  refine HN.out.mono ?_
  obtain ⟨c, hc⟩ : ∃ c, w.heap.size = c := ⟨_, rfl⟩
  rw [hc]
  rintro e w1 ⟨rfl, hok, hb1⟩
  have HC1 := Lib.hid (hok rfl); clear hok
  have HB1 := Lib.hid hb1; clear hb1
  have hz1 := HB1.out.size
  rw [hc] at hz1
  have Hc := Lib.hid hc; clear hc
  go_wp2_with fail
  refine (holidays_any c D (by omega) w1 HC1.out).mono ?_
  rintro e w2 ⟨Ah, caph, rfl, _, hb⟩
  rw [HN0.out]
  have HC2 := Lib.hid (HC1.out.below hb)
  have HB2 := Lib.hid (HB1.out.trans (hb.mono hz1))
  have hz2 := Nat.le_trans hz1 hb.size
  clear hb b1 b2
  have hrm : Reads w2 w2.heap.size 1 A' m.length (ints m) := by
    have h := Hr'.out
    rw [Hc.out] at h
    exact (h.below HB2.out).more hz2
  have hcl := close_any c D m A' cp' w2 HC2.out hD0 hrm (by rw [HK'.out]; omega) Hv'.out
  rw [HK'.out, HEm.out] at hcl
  have HCl := Lib.hid hcl; clear hcl hrm
  go_wp2_with fail
  refine HCl.out.mono ?_
  rintro e w3 ⟨rfl, hcal, hb⟩
  have HB3 := Lib.hid (HB2.out.trans hb)
  have hz3 := Nat.le_trans hz2 hb.size
  by_cases hE0 : E = 0
  · rw [HO1.out hE0] at hcal
    have hn1b := HB1'.out hE0
    subst hE0
    have HC3 := Lib.hid hcal
    clear hb hcal HCl herr
    go_wp2_with fail
    refine (holidays_any c D1 hD10 w3 HC3.out).mono ?_
    rintro e w4 ⟨A4, cap4, rfl, hrd, hb⟩
    rw [HN1.out] at hrd
    rw [HN1.out]
    have HC4 := Lib.hid (HC3.out.below hb)
    have HB4 := Lib.hid (HB3.out.trans (hb.mono hz3))
    have hz4 := Nat.le_trans hz3 hb.size
    have HR4 := Lib.hid hrd
    clear hb hrd
    go_wp2
    go_loopw [10] (fun i wr => ∃ j : Nat, j ≤ k' ∧ i = .int .i64 j ∧ Hid (CalAt c D1 wr) ∧ Hid (Below c w wr) ∧ Hid (Reads wr wr.heap.size 1 A4 n1 (ints (hol D1))) ∧ c ≤ wr.heap.size) (fun i _ => k' - (intOf i).toNat)
    case atStart => exact ⟨0, Nat.zero_le _, rfl, HC4.out, HB4.out, HR4.out, hz4⟩
    case round =>
      obtain ⟨j, hj, rfl, HCr, HBr, HRr, hcr⟩ := hrel
      by_cases hlt : j < k'
      · obtain ⟨ad, z, rfl, hab, hzk, hc0⟩ := int_at (by have h := Hr'.out; rw [HK'.out] at h; exact h) hlt
        have hcell : wr.cell? (ad.add j) = some (.int .i64 z) := by rw [HBr.out.cell (p := ad.add j) (by rw [block_of_add, ← Hc.out]; exact hab)]; exact hc0
        have hzb := Hv'.out z (List.mem_of_getElem? hzk)
        have hi := is_any c D1 z hzb.1 hzb.2 wr HCr.out
        rw [HMo.out z (List.mem_of_getElem? hzk)] at hi
        have HI := Lib.hid hi; clear hi hzk hc0
        go_wp2_with (go_at_call 10; refine HI.out.mono ?_; rintro e w5 ⟨rfl, hb5⟩)
        have HRn := Lib.hid ((HRr.out.below hb5).more hb5.size)
        go_roundw
        case rel => exact ⟨j + 1, by omega, by go_num, HCr.out.below hb5, HBr.out.trans (hb5.mono hcr), HRn.out, Nat.le_trans hcr hb5.size⟩
        case measure => simp [intOf]; omega
      · clear HR4
        go_wp2
        go_loopw [11] (fun i wz => ∃ u : Nat, 1 ≤ u ∧ (u ≤ n1 ∨ u = 1) ∧ i = .int .i64 u ∧ Hid (Below c w wz) ∧ Hid (Reads wz wz.heap.size 1 A4 n1 (ints (hol D1))) ∧ c ≤ wz.heap.size) (fun i _ => n1 - (intOf i).toNat)
        case atStart => exact ⟨1, by omega, .inr rfl, rfl, HBr.out, HRr.out, hcr⟩
        case round =>
          clear HBr HRr hcr HCr
          obtain ⟨u, hu1, hu, rfl, HBr, HRr, hcr⟩ := hrel
          by_cases htn : u < n1
          · obtain ⟨t, htu⟩ : ∃ t : Nat, u = t + 1 := ⟨u - 1, by omega⟩
            obtain ⟨ad, z0, rfl, hab, hz0, hc0⟩ := int_at HRr.out (show t < n1 by omega)
            obtain ⟨ad', z1, he, _, hz1', hc1⟩ := int_at HRr.out htn
            injection he with he
            subst he
            have hlt2 := hol_rises HG1.out hz0 (by rw [← htu]; exact hz1')
            have e1 : IntKind.i64.wrap ((u : Int) - 1) = (t : Int) := by rw [IntKind.wrap_i64]; omega
            have e2 : (u : Int) - 1 = (t : Int) := by omega
            have hcmp : decide (z1 ≤ z0) = false := by simp; omega
            have htl : t < n1 := by omega
            have Hut := Lib.hid htu
            clear hz0 hz1' htu
            go_wp2
            go_quiet (fail)
            go_wp2
            go_roundw
            case rel => exact ⟨u + 1, by omega, .inl (by omega), by go_num, drewN_below HBr.out _, HRr.out.drewN _, hcr⟩
            case measure => simp [intOf]; omega
          · go_wp2_with fail
            refine (alive8_any _).mono ?_
            rintro e w6 ⟨rfl, hb6⟩
            go_wp2
            go_ret
            refine ⟨rfl, ?_⟩
            rw [Hc.out]
            exact HBr.out.trans (hb6.mono hcr)
  · rw [HO0.out hE0] at hcal
    have HC3 := Lib.hid hcal
    clear hb hcal HCl
    go_wp2_with fail
    refine (holidays_any c D (by omega) w3 HC3.out).mono ?_
    rintro e w4 ⟨A4, cap4, rfl, _, hb⟩
    rw [HN0.out]
    have HB4 := Lib.hid (HB3.out.trans (hb.mono hz3))
    have hz4 := Nat.le_trans hz3 hb.size
    clear hb
    have hne : (E != 0) = true := by simp [hE0]
    have H0 := Lib.hid hE0; clear hE0
    rcases herr with h | rfl | rfl
    · exact absurd h H0.out
    all_goals
      clear H0 hne
      go_wp2_with fail
      refine (alive8_any _).mono ?_
      rintro e w6 ⟨rfl, hb6⟩
      go_wp2
      go_ret
      refine ⟨rfl, ?_⟩
      rw [Hc.out]
      exact HB4.out.trans (hb6.mono hz4)

theorem full_walk (l m : List Int) (A A' : Option Addr) (cp cp' : Nat) (w : World) (hr : Reads w w.heap.size 1 A l.length (ints l)) (hr' : Reads w w.heap.size 1 A' m.length (ints m)) (hl : l.length ≤ 9223372036854775807) (hm : m.length ≤ 9223372036854775807)
    (hv : ∀ v ∈ l, -9223372036854775808 ≤ v ∧ v ≤ 9223372036854775807) (hv' : ∀ v ∈ m, -9223372036854775808 ≤ v ∧ v ≤ 9223372036854775807) :
    Calls Try.prog 6 #[.slice A l.length cp, .slice A' m.length cp'] w fun e w' => e = .returned (.bool true) ∧ Below w.heap.size w w' := by
  by_cases h0 : errNew l = 0
  rotate_left
  · exact full_bad l m A A' cp cp' w hr hl hm hv (.inl h0)
  by_cases h1 : l.length ≤ 300
  rotate_left
  · exact full_bad l m A A' cp cp' w hr hl hm hv (.inr ⟨h0, .inl (by omega)⟩)
  by_cases h2 : m.length ≤ 400
  rotate_left
  · exact full_bad l m A A' cp cp' w hr hl hm hv (.inr ⟨h0, .inr ⟨h1, by omega⟩⟩)
  exact full_good l m A A' cp cp' w hr hr' hv hv' h0 h1 h2
end Go.Proofs.Ythnhdcfhlokalaa
