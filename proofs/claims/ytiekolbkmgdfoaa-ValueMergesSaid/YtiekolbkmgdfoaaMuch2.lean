/-
  Package value's much as a contract.
  Conditions: ints of 64 bits.
-/
import Derived.Test.YtiekolbkmgdfoaaMuch
namespace Go.Proofs.Ytiekolbkmgdfoaa
open Go.RowKit

set_option maxHeartbeats 4000000 in
set_option maxRecDepth 100000 in
theorem much_yes (lack : Int) (x : Vl.St) (hx : x.fits) (h : ¬ x.no) (hl1 : -9223372036854775808 ≤ lack) (hl2 : lack ≤ 9223372036854775807) (w : World) :
    Calls Try.prog 14 #[.int .i64 lack, .agg #[.string x.nm, .bool x.cash, .bool x.pl, .int .i64 x.u, .int .i64 x.least, .int .i64 x.p, .int .i64 x.c, .int .i64 x.close, .int .i64 x.q]] w fun e w' => e = .returned (.tuple #[.int .i64 (Vl.muchQ lack x), .int .i64 (Vl.muchW lack x)]) ∧ Below w.heap.size w w' := by
  have hQ : Vl.muchQ lack x = if Wo.wE (Vl.tk lack x) x.p x.c ≠ 0 ∨ Wo.wV (Vl.tk lack x) x.p x.c = 0 then 0 else Vl.tk lack x := by unfold Vl.muchQ; rw [if_neg h]
  have hW : Vl.muchW lack x = if Wo.wE (Vl.tk lack x) x.p x.c ≠ 0 ∨ Wo.wV (Vl.tk lack x) x.p x.c = 0 then 0 else Wo.wV (Vl.tk lack x) x.p x.c := by unfold Vl.muchW; rw [if_neg h]
  have ht : Vl.tk lack x = if Nd.needE lack x.p x.c = 0 ∧ Vl.upB (Nd.needV lack x.p x.c) x.u x.q = true then Vl.upV (Nd.needV lack x.p x.c) x.u x.q else x.q - x.q % x.u := rfl
  obtain ⟨mq, hmq⟩ : ∃ mq, Vl.muchQ lack x = mq := ⟨_, rfl⟩
  obtain ⟨mw, hmw⟩ : ∃ mw, Vl.muchW lack x = mw := ⟨_, rfl⟩
  obtain ⟨T, hT⟩ : ∃ T, Vl.tk lack x = T := ⟨_, rfl⟩
  rw [hmq, hmw]
  rw [hmq, hT] at hQ
  rw [hmw, hT] at hW
  rw [hT] at ht
  unfold Vl.St.no at h
  unfold Vl.St.fits at hx
  clear hmq hmw hT
  obtain ⟨nm, cash, pl, u, least, p, c, close, q⟩ := x
  simp only at h hx hQ hW ht ⊢
  obtain ⟨hx1, hx2, hx3, hx4⟩ := hx
  have hpl : pl = true := by cases pl <;> simp at h ⊢
  subst hpl
  have hu1 : 1 ≤ u := by omega
  have hq1 : 1 ≤ q := by omega
  clear h
  have hup := upV_range (n := Nd.needV lack p c) (u := u) (m := q) (Nd.needV_range lack p c).1 hu1 (by omega)
  have hnr := Nd.needV_range lack p c
  have hmod : 0 ≤ q % u ∧ q % u < u ∧ q % u ≤ q := ⟨Int.emod_nonneg _ (by omega), Int.emod_lt_of_pos _ (by omega), by
    rcases Int.lt_or_le q u with h1 | h1
    · rw [Int.emod_eq_of_lt (by omega) h1]; omega
    · have := Int.emod_lt_of_pos q (show 0 < u by omega); omega⟩
  obtain ⟨nv, hnv⟩ : ∃ z, Nd.needV lack p c = z := ⟨_, rfl⟩
  obtain ⟨ne, hne⟩ : ∃ z, Nd.needE lack p c = z := ⟨_, rfl⟩
  rw [hnv] at ht hup hnr
  rw [hne] at ht
  obtain ⟨uv, huv⟩ : ∃ z, Vl.upV nv u q = z := ⟨_, rfl⟩
  obtain ⟨ub, hub⟩ : ∃ z, Vl.upB nv u q = z := ⟨_, rfl⟩
  rw [huv] at ht hup
  rw [hub] at ht
  obtain ⟨r, hr⟩ : ∃ r, q % u = r := ⟨_, rfl⟩
  rw [hr] at ht hmod
  obtain ⟨E2, hE2⟩ : ∃ z, Wo.wE T p c = z := ⟨_, rfl⟩
  obtain ⟨W2, hW2⟩ : ∃ z, Wo.wV T p c = z := ⟨_, rfl⟩
  rw [hE2, hW2] at hQ
  rw [hE2, hW2] at hW
  have hTb : -9223372036854775808 ≤ T ∧ T ≤ 9223372036854775807 := by rw [ht]; split <;> omega
  have huz : (u == 0) = false := by simp; omega
  have HNV := Lib.hid hnv; have HNE := Lib.hid hne; have HUV := Lib.hid huv; have HUB := Lib.hid hub; have HE2 := Lib.hid hE2; have HW2 := Lib.hid hW2; have HQ := Lib.hid hQ; have HW := Lib.hid hW
  clear hnv hne huv hub hE2 hW2 hQ hW
  have hcase : (ne = 0 ∧ ub = true ∧ uv = T) ∨ (ne = 0 ∧ ub = false ∧ q - r = T) ∨ (ne ≠ 0 ∧ q - r = T) := by
    by_cases h1 : ne = 0
    · cases ub
      · right; left; rw [ht, if_neg (by simp)]; exact ⟨h1, rfl, rfl⟩
      · left; rw [ht, if_pos ⟨h1, rfl⟩]; exact ⟨h1, rfl, rfl⟩
    · right; right; rw [ht, if_neg (fun h => h1 h.1)]; exact ⟨h1, rfl⟩
  clear ht
  have hfin : (E2 ≠ 0 ∧ mq = 0 ∧ mw = 0) ∨ (E2 = 0 ∧ W2 = 0 ∧ mq = 0 ∧ mw = 0) ∨ (E2 = 0 ∧ W2 ≠ 0 ∧ mq = T ∧ mw = W2) := by
    by_cases h1 : E2 = 0
    · by_cases h2 : W2 = 0
      · right; left; rw [HQ.out, HW.out, if_pos (.inr h2), if_pos (.inr h2)]; exact ⟨h1, h2, rfl, rfl⟩
      · right; right; rw [HQ.out, HW.out, if_neg (by simp [h1, h2]), if_neg (by simp [h1, h2])]; exact ⟨h1, h2, rfl, rfl⟩
    · left; rw [HQ.out, HW.out, if_pos (.inl h1), if_pos (.inl h1)]; exact ⟨h1, rfl, rfl⟩
  clear HQ HW
  have HFin := Lib.hid hfin; clear hfin
  have HR := Lib.hid hr; clear hr
  rcases hcase with ⟨rfl, rfl, rfl⟩ | ⟨rfl, rfl, hqr⟩ | ⟨hn0, hqr⟩
  · go_enter Try.func14, Try.ntmps14
    go_wp2_with fail
    refine (need_any lack p c hl1 hl2 hx2.1 hx2.2 hx3.1 hx3.2 _).mono ?_
    rw [HNV.out, HNE.out]
    rintro e w1 ⟨rfl, hb1⟩
    obtain ⟨hk, hb⟩ := new_block hb1
    have c3 : w1.cell? ⟨w.heap.size, 3, none⟩ = some (.int .i64 u) := by rw [Lib.cell_of_heap hk]; rfl
    have c8 : w1.cell? ⟨w.heap.size, 8, none⟩ = some (.int .i64 q) := by rw [Lib.cell_of_heap hk]; rfl
    have c5 : w1.cell? ⟨w.heap.size, 5, none⟩ = some (.int .i64 p) := by rw [Lib.cell_of_heap hk]; rfl
    have c6 : w1.cell? ⟨w.heap.size, 6, none⟩ = some (.int .i64 c) := by rw [Lib.cell_of_heap hk]; rfl
    have hsz := hb.size
    clear hb1 hk
    go_wp2_with fail
    refine (up_any nv u q hnr.1 hnr.2 hu1 hx1.2 (by omega) hx4.2 _).mono ?_
    rw [HUV.out, HUB.out]
    rintro e w2 ⟨rfl, rfl⟩
    go_wp2_with fail
    refine (worth_any uv p c hTb.1 hTb.2 hx2.1 hx2.2 hx3.1 hx3.2 _).mono ?_
    rw [HE2.out, HW2.out]
    rintro e w3 ⟨rfl, hb3⟩
    have hb4 := hb.trans (hb3.mono hsz)
    clear hb hb3 c3 c8 c5 c6
    rcases HFin.out with ⟨h1, h2, h3⟩ | ⟨h1, h0, h2, h3⟩ | ⟨h1, h0, h2, h3⟩
    · have h1b : (E2 != 0) = true := by simp [h1]
      have H1 := Lib.hid h1; have H2 := Lib.hid h2; have H3 := Lib.hid h3; clear h1 h2 h3
      go_wp2
      go_ret2
      refine ⟨?_, hb4⟩
      rw [H2.out, H3.out]
      rfl
    · subst h1 h0
      have H2 := Lib.hid h2; have H3 := Lib.hid h3; clear h2 h3
      go_wp2
      go_ret2
      refine ⟨?_, hb4⟩
      rw [H2.out, H3.out]
      rfl
    · subst h1
      have h0b : (W2 == 0) = false := by simp [h0]
      have H0 := Lib.hid h0; have H2 := Lib.hid h2; have H3 := Lib.hid h3; clear h0 h2 h3
      go_wp2
      go_ret2
      refine ⟨?_, hb4⟩
      rw [H2.out, H3.out]
      rfl
  · have HQR := Lib.hid hqr; clear hqr
    go_enter Try.func14, Try.ntmps14
    go_wp2_with fail
    refine (need_any lack p c hl1 hl2 hx2.1 hx2.2 hx3.1 hx3.2 _).mono ?_
    rw [HNV.out, HNE.out]
    rintro e w1 ⟨rfl, hb1⟩
    obtain ⟨hk, hb⟩ := new_block hb1
    have c3 : w1.cell? ⟨w.heap.size, 3, none⟩ = some (.int .i64 u) := by rw [Lib.cell_of_heap hk]; rfl
    have c8 : w1.cell? ⟨w.heap.size, 8, none⟩ = some (.int .i64 q) := by rw [Lib.cell_of_heap hk]; rfl
    have c5 : w1.cell? ⟨w.heap.size, 5, none⟩ = some (.int .i64 p) := by rw [Lib.cell_of_heap hk]; rfl
    have c6 : w1.cell? ⟨w.heap.size, 6, none⟩ = some (.int .i64 c) := by rw [Lib.cell_of_heap hk]; rfl
    have hsz := hb.size
    clear hb1 hk
    go_wp2_with fail
    refine (up_any nv u q hnr.1 hnr.2 hu1 hx1.2 (by omega) hx4.2 _).mono ?_
    rw [HUV.out, HUB.out]
    rintro e w2 ⟨rfl, rfl⟩
    have hr9 : q % u = r := HR.out
    have hqr9 : q - r = T := HQR.out
    have hw9 : IntKind.i64.wrap (q - r) = T := by rw [hqr9, IntKind.wrap_i64]; omega
    go_wp2
    go_quiet (fail)
    go_wp2_with fail
    refine (worth_any T p c hTb.1 hTb.2 hx2.1 hx2.2 hx3.1 hx3.2 _).mono ?_
    rw [HE2.out, HW2.out]
    rintro e w3 ⟨rfl, hb3⟩
    clear hr9 hqr9 hw9
    have hb4 := (drewN_below hb _).trans (hb3.mono hsz)
    clear hb hb3 c3 c8 c5 c6
    rcases HFin.out with ⟨h1, h2, h3⟩ | ⟨h1, h0, h2, h3⟩ | ⟨h1, h0, h2, h3⟩
    · have h1b : (E2 != 0) = true := by simp [h1]
      have H1 := Lib.hid h1; have H2 := Lib.hid h2; have H3 := Lib.hid h3; clear h1 h2 h3
      go_wp2
      go_ret2
      refine ⟨?_, hb4⟩
      rw [H2.out, H3.out]
      rfl
    · subst h1 h0
      have H2 := Lib.hid h2; have H3 := Lib.hid h3; clear h2 h3
      go_wp2
      go_ret2
      refine ⟨?_, hb4⟩
      rw [H2.out, H3.out]
      rfl
    · subst h1
      have h0b : (W2 == 0) = false := by simp [h0]
      have H0 := Lib.hid h0; have H2 := Lib.hid h2; have H3 := Lib.hid h3; clear h0 h2 h3
      go_wp2
      go_ret2
      refine ⟨?_, hb4⟩
      rw [H2.out, H3.out]
      rfl
  · have hnb : (ne == 0) = false := by simp [hn0]
    have HN0 := Lib.hid hn0; clear hn0
    have HQR := Lib.hid hqr; clear hqr
    go_enter Try.func14, Try.ntmps14
    go_wp2_with fail
    refine (need_any lack p c hl1 hl2 hx2.1 hx2.2 hx3.1 hx3.2 _).mono ?_
    rw [HNV.out, HNE.out]
    rintro e w1 ⟨rfl, hb1⟩
    obtain ⟨hk, hb⟩ := new_block hb1
    have c3 : w1.cell? ⟨w.heap.size, 3, none⟩ = some (.int .i64 u) := by rw [Lib.cell_of_heap hk]; rfl
    have c8 : w1.cell? ⟨w.heap.size, 8, none⟩ = some (.int .i64 q) := by rw [Lib.cell_of_heap hk]; rfl
    have c5 : w1.cell? ⟨w.heap.size, 5, none⟩ = some (.int .i64 p) := by rw [Lib.cell_of_heap hk]; rfl
    have c6 : w1.cell? ⟨w.heap.size, 6, none⟩ = some (.int .i64 c) := by rw [Lib.cell_of_heap hk]; rfl
    have hsz := hb.size
    clear hb1 hk
    have hr9 : q % u = r := HR.out
    have hqr9 : q - r = T := HQR.out
    have hw9 : IntKind.i64.wrap (q - r) = T := by rw [hqr9, IntKind.wrap_i64]; omega
    go_wp2
    go_quiet (fail)
    go_wp2_with fail
    refine (worth_any T p c hTb.1 hTb.2 hx2.1 hx2.2 hx3.1 hx3.2 _).mono ?_
    rw [HE2.out, HW2.out]
    rintro e w3 ⟨rfl, hb3⟩
    clear hr9 hqr9 hw9
    have hb4 := (drewN_below hb _).trans (hb3.mono hsz)
    clear hb hb3 c3 c8 c5 c6
    rcases HFin.out with ⟨h1, h2, h3⟩ | ⟨h1, h0, h2, h3⟩ | ⟨h1, h0, h2, h3⟩
    · have h1b : (E2 != 0) = true := by simp [h1]
      have H1 := Lib.hid h1; have H2 := Lib.hid h2; have H3 := Lib.hid h3; clear h1 h2 h3
      go_wp2
      go_ret2
      refine ⟨?_, hb4⟩
      rw [H2.out, H3.out]
      rfl
    · subst h1 h0
      have H2 := Lib.hid h2; have H3 := Lib.hid h3; clear h2 h3
      go_wp2
      go_ret2
      refine ⟨?_, hb4⟩
      rw [H2.out, H3.out]
      rfl
    · subst h1
      have h0b : (W2 == 0) = false := by simp [h0]
      have H0 := Lib.hid h0; have H2 := Lib.hid h2; have H3 := Lib.hid h3; clear h0 h2 h3
      go_wp2
      go_ret2
      refine ⟨?_, hb4⟩
      rw [H2.out, H3.out]
      rfl

theorem much_any (lack : Int) (x : Vl.St) (hx : x.fits) (hl1 : -9223372036854775808 ≤ lack) (hl2 : lack ≤ 9223372036854775807) (w : World) :
    Calls Try.prog 14 #[.int .i64 lack, .agg #[.string x.nm, .bool x.cash, .bool x.pl, .int .i64 x.u, .int .i64 x.least, .int .i64 x.p, .int .i64 x.c, .int .i64 x.close, .int .i64 x.q]] w fun e w' => e = .returned (.tuple #[.int .i64 (Vl.muchQ lack x), .int .i64 (Vl.muchW lack x)]) ∧ Below w.heap.size w w' := by
  by_cases h : x.no
  · have hQ : Vl.muchQ lack x = 0 := by unfold Vl.muchQ; rw [if_pos h]
    have hW : Vl.muchW lack x = 0 := by unfold Vl.muchW; rw [if_pos h]
    rw [hQ, hW]
    exact much_no lack x h w
  · exact much_yes lack x hx h hl1 hl2 w
end Go.Proofs.Ytiekolbkmgdfoaa
