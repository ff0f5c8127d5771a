/-
  The walk of RefSets: a price, and a limit, is what was set last; the others stay.
  Conditions: three ints.
-/
import Derived.Test.YtnpkplegeddhcaaRef7
import Derived.Test.YtnpkplegeddhcaaRef8
namespace Go.Proofs.Ytnpkplegeddhcaa
open Go.RowKit Go.Maps Go.Shelf

def nP : ByteArray := ⟨#[80]⟩
def nQ : ByteArray := ⟨#[81]⟩
def nX : ByteArray := ⟨#[88]⟩
def nY : ByteArray := ⟨#[89]⟩
def nR : ByteArray := ⟨#[82]⟩
def nEUR : ByteArray := ⟨#[69, 85, 82]⟩
def setX : Asset := ⟨nX, false, false, 1, 1, 5, 0, 0⟩
def setE : Asset := ⟨nEUR, true, false, 1, 1, 0, 0, 0⟩
def se1 : Rf := addP rf0 [⟨nP, 7⟩, ⟨nQ, 8⟩]
def se2 : Rf := addS' se1 [setX, setE]
theorem se_e1 : errP rf0 [⟨nP, 7⟩, ⟨nQ, 8⟩] = 0 := by decide +kernel
theorem se_e2 : errS se1 [setX, setE] = 0 := by decide +kernel
theorem se_ok1 : se1.Ok := addP_ok rf0_ok _
theorem se_ok2 : se2.Ok := addS_ok se_ok1 _
theorem se_hX : hasS se2.s nX = true := by decide +kernel
theorem se_hE : hasS se2.s nEUR = true := by decide +kernel
theorem se_hY : hasS se2.s nY = false := by decide +kernel
theorem se_hP : hasS se2.p nP = true := by decide +kernel
theorem se_hQ : hasS se2.p nQ = true := by decide +kernel
theorem se_hR : hasS se2.p nR = false := by decide +kernel
theorem se_rX : recAt Asset se2.s nX = setX := by kernel_rfl
theorem se_rE : recAt Asset se2.s nEUR = setE := by kernel_rfl
theorem se_rP : recAt Party se2.p nP = ⟨nP, 7⟩ := by kernel_rfl
theorem se_rQ : recAt Party se2.p nQ = ⟨nQ, 8⟩ := by kernel_rfl
theorem se_nS : Maps.size se2.s = 2 := by decide +kernel
theorem se_nP : Maps.size se2.p = 3 := by decide +kernel
theorem neXE : nEUR ≠ nX := by decide
theorem neYX : nY ≠ nX := by decide
theorem neQP : nQ ≠ nP := by decide
theorem neRP : nR ≠ nP := by decide

/-- What is known of the data behind a price and a limit. -/
structure Told (st : Rf) (a p : Int) : Prop where
  ok : st.Ok
  cS : Maps.size st.s ≠ 0
  cP : Maps.size st.p ≠ 0
  hX : hasS st.s nX = true
  hY : hasS st.s nY = false
  hP : hasS st.p nP = true
  hQ : hasS st.p nQ = true
  hR : hasS st.p nR = false
  rX : recAt Asset st.s nX = ⟨nX, false, false, 1, 1, a, 0, 0⟩
  rP : recAt Party st.p nP = ⟨nP, p⟩
  rQ : recAt Party st.p nQ = ⟨nQ, 8⟩
  eE : ∀ n, errPr st nEUR n = 1 ∧ setPr st nEUR n = st
  rE : recAt Asset st.s nEUR = setE
  rY : recAt Asset st.s nY = Kd.zero
  rR : recAt Party st.p nR = Kd.zero
theorem errE {st : Rf} (h : hasS st.s nEUR = true) (hr : recAt Asset st.s nEUR = setE) (n : Int) : errPr st nEUR n = 1 ∧ setPr st nEUR n = st := by
  cases h1 : inB n 0 1099511627776
  · exact errPr_in h h1
  · exact errPr_cash h h1 (by rw [hr]; rfl)
theorem told0 : Told se2 5 7 := ⟨se_ok2, by rw [se_nS]; decide, by rw [se_nP]; decide, se_hX, se_hY, se_hP, se_hQ, se_hR, se_rX, se_rP, se_rQ, errE se_hE se_rE, se_rE, recAt_none se_hY, recAt_none se_hR⟩
/-- Behind SetPrice. -/
theorem told1 (n : Int) : (inB n 0 1099511627776 = true ∧ errPr se2 nX n = 0 ∧ Told (setPr se2 nX n) n 7) ∨ (inB n 0 1099511627776 = false ∧ errPr se2 nX n = 1 ∧ Told (setPr se2 nX n) 5 7) := by
  cases h1 : inB n 0 1099511627776
  · have h := errPr_in (st := se2) se_hX h1
    refine .inr ⟨rfl, h.1, ?_⟩
    rw [h.2]
    obtain ⟨a1, a2, a3, a4, a5, a6, a7, a8, a9, a10, a11, a12, a13, a14, a15⟩ := told0
    exact ⟨a1, a2, a3, a4, a5, a6, a7, a8, a9, a10, a11, a12, a13, a14, a15⟩
  · have h := errPr_ok (st := se2) se_hX h1 (by rw [se_rX]; rfl)
    refine .inl ⟨rfl, h.1, ?_⟩
    rw [h.2, se_rX]
    have hg := se_ok2.gs
    have hsz : Maps.size (putR se2.s nX (⟨nX, false, false, 1, 1, n, 0, 0⟩ : Asset)) = 2 := by rw [size_putR hg, if_pos se_hX, se_nS]
    have hE : hasS (putR se2.s nX (⟨nX, false, false, 1, 1, n, 0, 0⟩ : Asset)) nEUR = true := (hasR_put hg _ _ _).2 (.inr se_hE)
    have rE : recAt Asset (putR se2.s nX (⟨nX, false, false, 1, 1, n, 0, 0⟩ : Asset)) nEUR = setE := (recAt_put_other neXE _).trans se_rE
    have hY : hasS (putR se2.s nX (⟨nX, false, false, 1, 1, n, 0, 0⟩ : Asset)) nY = false := by
      rw [Bool.eq_false_iff]
      intro h
      rcases (hasR_put hg _ _ _).1 h with h | h
      · exact neYX h
      · rw [se_hY] at h; cases h
    refine ⟨⟨se_ok2.gp, se_ok2.ga, hg.put _ _, se_ok2.np, se_ok2.na, ?_⟩, ?_, ?_, ?_, hY, se_hP, se_hQ, se_hR, ?_, se_rP, se_rQ, errE hE rE, rE, recAt_none hY, recAt_none se_hR⟩
    · show Maps.size (putR se2.s nX (⟨nX, false, false, 1, 1, n, 0, 0⟩ : Asset)) ≤ 12
      omega
    · show Maps.size (putR se2.s nX (⟨nX, false, false, 1, 1, n, 0, 0⟩ : Asset)) ≠ 0
      omega
    · show Maps.size se2.p ≠ 0
      rw [se_nP]; decide
    · exact (hasR_put hg _ _ _).2 (.inl rfl)
    · exact recAt_put_same hg _ _
/-- Behind SetLimit. -/
theorem told2 {st : Rf} {a : Int} (h0 : Told st a 7) (n : Int) : (inB n 0 1152921504606846976 = true ∧ errLi st nP n = 0 ∧ Told (setLi st nP n) a n) ∨ (inB n 0 1152921504606846976 = false ∧ errLi st nP n = 1 ∧ Told (setLi st nP n) a 7) := by
  cases h1 : inB n 0 1152921504606846976
  · have h := errLi_in (st := st) h0.hP h1
    refine .inr ⟨rfl, h.1, ?_⟩
    rw [h.2]
    obtain ⟨a1, a2, a3, a4, a5, a6, a7, a8, a9, a10, a11, a12, a13, a14, a15⟩ := h0
    exact ⟨a1, a2, a3, a4, a5, a6, a7, a8, a9, a10, a11, a12, a13, a14, a15⟩
  · have h := errLi_ok (st := st) h0.hP h1
    refine .inl ⟨rfl, h.1, ?_⟩
    rw [h.2, h0.rP]
    have hg := h0.ok.gp
    have hsz : Maps.size (putR st.p nP (⟨nP, n⟩ : Party)) = Maps.size st.p := by rw [size_putR hg, if_pos h0.hP]
    have hR : hasS (putR st.p nP (⟨nP, n⟩ : Party)) nR = false := by
      rw [Bool.eq_false_iff]
      intro h
      rcases (hasR_put hg _ _ _).1 h with h | h
      · exact neRP h
      · rw [h0.hR] at h; cases h
    have hnP := h0.cP
    have hle := h0.ok.np
    refine ⟨⟨hg.put _ _, h0.ok.ga, h0.ok.gs, ?_, h0.ok.na, h0.ok.ns⟩, h0.cS, ?_, h0.hX, h0.hY, (hasR_put hg _ _ _).2 (.inl rfl), (hasR_put hg _ _ _).2 (.inr h0.hQ), hR, h0.rX, recAt_put_same hg _ _, (recAt_put_other neQP _).trans h0.rQ, errE ?_ h0.rE, h0.rE, h0.rY, recAt_none hR⟩
    · show Maps.size (putR st.p nP (⟨nP, n⟩ : Party)) ≤ 20
      omega
    · show Maps.size (putR st.p nP (⟨nP, n⟩ : Party)) ≠ 0
      omega
    · have h := (h0.eE 0).1
      cases hh : hasS st.s nEUR
      · rw [(errPr_none hh).1] at h; cases h
      · rfl
set_option maxHeartbeats 40000000 in
set_option maxRecDepth 10000 in
theorem rsets_core (price limit other E F a p : Int) (hE : errPr se2 nX price = E) (hF : errLi (setPr se2 nX price) nP limit = F) (T1 : Told (setPr se2 nX price) a 7) (T2 : Told (setLi (setPr se2 nX price) nP limit) a p)
    (hp : (E = 0 ∧ a = price ∧ 0 ≤ price ∧ price ≤ 1099511627776) ∨ (E = 1 ∧ a = 5 ∧ ¬ 0 ≤ price) ∨ (E = 1 ∧ a = 5 ∧ 0 ≤ price ∧ ¬ price ≤ 1099511627776))
    (hl : (F = 0 ∧ p = limit ∧ 0 ≤ limit ∧ limit ≤ 1152921504606846976) ∨ (F = 1 ∧ p = 7 ∧ ¬ 0 ≤ limit) ∨ (F = 1 ∧ p = 7 ∧ 0 ≤ limit ∧ ¬ limit ≤ 1152921504606846976)) (w : World) :
    Calls Try.prog 5 #[.int .i64 price, .int .i64 limit, .int .i64 other] w fun e w' => e = .returned (.bool true) ∧ Below w.heap.size w w' := by
  have HP := Lib.hid hp; have HL := Lib.hid hl
  have HE := Lib.hid hE; have HF := Lib.hid hF
  have HT1 := Lib.hid T1; have HT2 := Lib.hid T2
  clear hp hl hE hF T1 T2
  go_enter Try.func5, Try.ntmps5
  go_wp2_with fail
  refine (new_nil w).mono ?_
  rintro e w1 ⟨r, rfl, hr, hk1, hb1, hl1⟩
  have HB1 := Lib.hid hb1
  have HK1 := Lib.hid hk1
  have HL1 := Lib.hid hl1
  have HR := Lib.hid hr
  clear hk1 hb1 hl1
  have HA := addParties_any r rf0 rf0_ok [⟨nP, 7⟩, ⟨nQ, 8⟩] (some ⟨w1.heap.size, 0, none⟩) 2 _ (HK1.out.below ((Below.refl _ _).alloc (Nat.le_refl _) (.cells #[.string ⟨#[80]⟩, .int .i64 7, .string ⟨#[81]⟩, .int .i64 8] 37))) (rows_newN (N := 2) w1 ([⟨nP, 7⟩, ⟨nQ, 8⟩] : List Party) 37 #[.string ⟨#[80]⟩, .int .i64 7, .string ⟨#[81]⟩, .int .i64 8] rfl (fun _ _ => rfl)) (by decide)
  rw [se_e1] at HA
  go_wp2_with fail
  refine HA.mono ?_
  rintro e w2 ⟨rfl, hk2, hm2⟩
  have hb2 : Below w.heap.size w w2 := (HB1.out.alloc HB1.out.size _).trans (hm2.mv.below (by simpa using hr) (by have := HB1.out.size; simp; omega))
  have hl2 : Lows w.heap.size r w2 := hm2.lows _ (by have := HB1.out.size; simp; omega) (HL1.out.below ((Below.refl _ _).alloc (Nat.le_refl _) _))
  have HB2 := Lib.hid hb2
  have HK2 : Hid (RefAt r se1 w2) := hk2
  have HL2 := Lib.hid hl2
  clear hk2 hb2 hm2 hl2 HA HK1 HB1 HL1
  have HA := addAssets_any r se1 se_ok1 [setX, setE] (some ⟨w2.heap.size, 0, none⟩) 2 _ (HK2.out.below ((Below.refl _ _).alloc (Nat.le_refl _) (.cells #[.string ⟨#[88]⟩, .bool false, .bool false, .int .i64 1, .int .i64 1, .int .i64 5, .int .i64 0, .int .i64 0, .string ⟨#[69, 85, 82]⟩, .bool true, .bool false, .int .i64 1, .int .i64 1, .int .i64 0, .int .i64 0, .int .i64 0] 29))) (rows_newN (N := 8) w2 ([setX, setE] : List Asset) 29 #[.string ⟨#[88]⟩, .bool false, .bool false, .int .i64 1, .int .i64 1, .int .i64 5, .int .i64 0, .int .i64 0, .string ⟨#[69, 85, 82]⟩, .bool true, .bool false, .int .i64 1, .int .i64 1, .int .i64 0, .int .i64 0, .int .i64 0] rfl (fun _ _ => rfl)) (by decide)
  rw [se_e2] at HA
  go_wp2_with fail
  refine HA.mono ?_
  rintro e w3 ⟨rfl, hk3, hm3⟩
  have hb3 : Below w.heap.size w w3 := (HB2.out.alloc HB2.out.size _).trans (hm3.mv.below (by simpa using HR.out) (by have := HB2.out.size; simp; omega))
  have hl3 : Lows w.heap.size r w3 := hm3.lows _ (by have := HB2.out.size; simp; omega) (HL2.out.below ((Below.refl _ _).alloc (Nat.le_refl _) _))
  have HB3 := Lib.hid hb3
  have HK3 : Hid (RefAt r se2 w3) := hk3
  have HL3 := Lib.hid hl3
  clear hk3 hb3 hm3 hl3 HA HK2 HB2 HL2
  have C1 := setPrice_any w.heap.size r se2 told0.ok told0.cS nX (by decide) (by rw [told0.rX]; decide) price w3 HK3.out HL3.out HR.out
  rw [HE.out] at C1
  go_wp2_with fail
  refine C1.mono ?_
  rintro e w4 ⟨rfl, hk4, hb4, hl4⟩
  have HB4 := Lib.hid (HB3.out.trans hb4)
  have HK4 := Lib.hid hk4
  have HL4 := Lib.hid hl4
  clear hk4 hb4 hl4 C1 HK3 HB3 HL3
  have C1 := setLimit_any w.heap.size r _ HT1.out.ok HT1.out.cP nP (by decide) (by rw [HT1.out.rP]; decide) limit w4 HK4.out HL4.out HR.out
  rw [HF.out] at C1
  go_wp2_with fail
  refine C1.mono ?_
  rintro e w5 ⟨rfl, hk5, hb5, hl5⟩
  have HB5 := Lib.hid (HB4.out.trans hb5)
  have HK5 := Lib.hid hk5
  have HL5 := Lib.hid hl5
  clear hk5 hb5 hl5 C1 HK4 HB4 HL4
  obtain ⟨st, hst⟩ : ∃ st, setLi (setPr se2 nX price) nP limit = st := ⟨_, rfl⟩
  rw [hst] at HT2 HK5
  clear hst HT1 HE HF
  have C1 := setPrice_any w.heap.size r st HT2.out.ok HT2.out.cS nEUR (by decide) (by rw [HT2.out.rE]; decide) other w5 HK5.out HL5.out HR.out
  rw [(HT2.out.eE other).1, (HT2.out.eE other).2] at C1
  go_wp2_with fail
  refine C1.mono ?_
  rintro e w6 ⟨rfl, hk6, hb6, hl6⟩
  have HB6 := Lib.hid (HB5.out.trans hb6)
  have HK6 := Lib.hid hk6
  have HL6 := Lib.hid hl6
  clear hk6 hb6 hl6 C1 HK5 HB5 HL5
  have C1 := getS_any r st HT2.out.ok.gs HT2.out.cS nX (by decide) w6 HK6.out
  rw [HT2.out.rX, HT2.out.hX] at C1
  have C2 : Calls Try.prog 20 #[.pointer (some ⟨r, 0, none⟩), .string ⟨#[88]⟩] w6 fun e w' => e = .returned (.tuple #[.agg #[.string ⟨#[88]⟩, .bool false, .bool false, .int .i64 1, .int .i64 1, .int .i64 a, .int .i64 0, .int .i64 0], .bool true]) ∧ Below w6.heap.size w6 w' := C1
  clear C1
  go_wp2_with fail
  refine C2.mono ?_
  rintro e w7 ⟨rfl, hb7⟩
  have hb7' : Below w6.heap.size w6 (w7.alloc (.cells #[.string ⟨#[88]⟩, .bool false, .bool false, .int .i64 1, .int .i64 1, .int .i64 a, .int .i64 0, .int .i64 0] 29)) := hb7.alloc hb7.size _
  have HB7 := Lib.hid (HB6.out.trans (hb7'.mono HB6.out.size))
  have HK7 := Lib.hid (HK6.out.below hb7')
  have HL7 := Lib.hid (HL6.out.below hb7')
  have hc7 : (w7.alloc (.cells #[.string ⟨#[88]⟩, .bool false, .bool false, .int .i64 1, .int .i64 1, .int .i64 a, .int .i64 0, .int .i64 0] 29)).cell? ⟨w7.heap.size, 5, none⟩ = some (.int .i64 a) := by rw [Lib.cell_of_heap (heap_alloc_new w7 _)]; rfl
  have hz7 : w7.heap.size < (w7.alloc (.cells #[.string ⟨#[88]⟩, .bool false, .bool false, .int .i64 1, .int .i64 1, .int .i64 a, .int .i64 0, .int .i64 0] 29)).heap.size := by simp
  obtain ⟨W7, hW7⟩ : ∃ W7, w7.alloc (.cells #[.string ⟨#[88]⟩, .bool false, .bool false, .int .i64 1, .int .i64 1, .int .i64 a, .int .i64 0, .int .i64 0] 29) = W7 := ⟨_, rfl⟩
  rw [hW7] at HB7 HK7 HL7 hc7 hz7
  have HW7 := Lib.hid hW7; have HC7 := Lib.hid hc7; have HZ7 := Lib.hid hz7
  clear hW7 hc7 hz7 hb7 hb7' C2 HK6 HB6 HL6
  have C1 := getP_any r st HT2.out.ok.gp nP (by decide) W7 HK7.out
  rw [HT2.out.rP, HT2.out.hP] at C1
  have C2 : Calls Try.prog 21 #[.pointer (some ⟨r, 0, none⟩), .string ⟨#[80]⟩] W7 fun e w' => e = .returned (.tuple #[.agg #[.string ⟨#[80]⟩, .int .i64 p], .bool true]) ∧ Below W7.heap.size W7 w' := C1
  clear C1
  go_wp2_with fail
  rw [HW7.out]
  clear HW7
  refine C2.mono ?_
  rintro e w8 ⟨rfl, hb8⟩
  have hb8' : Below W7.heap.size W7 (w8.alloc (.cells #[.string ⟨#[80]⟩, .int .i64 p] 37)) := hb8.alloc hb8.size _
  have HB8 := Lib.hid (HB7.out.trans (hb8'.mono HB7.out.size))
  have HK8 := Lib.hid (HK7.out.below hb8')
  have HL8 := Lib.hid (HL7.out.below hb8')
  have hc8 : (w8.alloc (.cells #[.string ⟨#[80]⟩, .int .i64 p] 37)).cell? ⟨w8.heap.size, 1, none⟩ = some (.int .i64 p) := by rw [Lib.cell_of_heap (heap_alloc_new w8 _)]; rfl
  have hz8 : w8.heap.size < (w8.alloc (.cells #[.string ⟨#[80]⟩, .int .i64 p] 37)).heap.size := by simp
  have HC78 := Lib.hid ((hb8'.cell (p := ⟨w7.heap.size, 5, none⟩) HZ7.out).trans HC7.out)
  have HZ78 := Lib.hid (Nat.lt_of_lt_of_le HZ7.out hb8'.size)
  obtain ⟨W8, hW8⟩ : ∃ W8, w8.alloc (.cells #[.string ⟨#[80]⟩, .int .i64 p] 37) = W8 := ⟨_, rfl⟩
  rw [hW8] at HB8 HK8 HL8 hc8 hz8 HC78 HZ78
  have HW8 := Lib.hid hW8; have HC8 := Lib.hid hc8; have HZ8 := Lib.hid hz8
  clear hW8 hc8 hz8 hb8 hb8' C2 HK7 HB7 HL7 HC7 HZ7
  have C1 := getP_any r st HT2.out.ok.gp nQ (by decide) W8 HK8.out
  rw [HT2.out.rQ, HT2.out.hQ] at C1
  have C2 : Calls Try.prog 21 #[.pointer (some ⟨r, 0, none⟩), .string ⟨#[81]⟩] W8 fun e w' => e = .returned (.tuple #[.agg #[.string ⟨#[81]⟩, .int .i64 8], .bool true]) ∧ Below W8.heap.size W8 w' := C1
  clear C1
  go_wp2_with fail
  rw [HW8.out]
  clear HW8
  refine C2.mono ?_
  rintro e w9 ⟨rfl, hb9⟩
  have hb9' : Below W8.heap.size W8 (w9.alloc (.cells #[.string ⟨#[81]⟩, .int .i64 8] 37)) := hb9.alloc hb9.size _
  have HB9 := Lib.hid (HB8.out.trans (hb9'.mono HB8.out.size))
  have HK9 := Lib.hid (HK8.out.below hb9')
  have HL9 := Lib.hid (HL8.out.below hb9')
  have hc9 : (w9.alloc (.cells #[.string ⟨#[81]⟩, .int .i64 8] 37)).cell? ⟨w9.heap.size, 1, none⟩ = some (.int .i64 8) := by rw [Lib.cell_of_heap (heap_alloc_new w9 _)]; rfl
  have hz9 : w9.heap.size < (w9.alloc (.cells #[.string ⟨#[81]⟩, .int .i64 8] 37)).heap.size := by simp
  have HC79 := Lib.hid ((hb9'.cell (p := ⟨w7.heap.size, 5, none⟩) HZ78.out).trans HC78.out)
  have HC89 := Lib.hid ((hb9'.cell (p := ⟨w8.heap.size, 1, none⟩) HZ8.out).trans HC8.out)
  have HZ79 := Lib.hid (Nat.lt_of_lt_of_le HZ78.out hb9'.size)
  have HZ89 := Lib.hid (Nat.lt_of_lt_of_le HZ8.out hb9'.size)
  obtain ⟨W9, hW9⟩ : ∃ W9, w9.alloc (.cells #[.string ⟨#[81]⟩, .int .i64 8] 37) = W9 := ⟨_, rfl⟩
  rw [hW9] at HB9 HK9 HL9 hc9 hz9 HC79 HC89 HZ79 HZ89
  have HW9 := Lib.hid hW9; have HC9 := Lib.hid hc9; have HZ9 := Lib.hid hz9
  clear hW9 hc9 hz9 hb9 hb9' C2 HK8 HB8 HL8 HC78 HZ78 HC8 HZ8
  rcases HP.out with ⟨rfl, rfl, q1, q2⟩ | ⟨rfl, rfl, q1⟩ | ⟨rfl, rfl, q1, q2⟩
  all_goals
    rcases HL.out with ⟨rfl, rfl, l1, l2⟩ | ⟨rfl, rfl, l1⟩ | ⟨rfl, rfl, l1, l2⟩
    all_goals
      go_wp2_with fail
      rw [HW9.out]
      refine (alive9_any W9).mono ?_
      rintro e w10 ⟨rfl, hb10⟩
      have HB10 := Lib.hid (HB9.out.trans (hb10.mono HB9.out.size))
      have HK10 := Lib.hid (HK9.out.below hb10)
      have HL10 := Lib.hid (HL9.out.below hb10)
      have k7 := (hb10.cell (p := ⟨w7.heap.size, 5, none⟩) HZ79.out).trans HC79.out
      have k8 := (hb10.cell (p := ⟨w8.heap.size, 1, none⟩) HZ89.out).trans HC89.out
      have k9 := (hb10.cell (p := ⟨w9.heap.size, 1, none⟩) HZ9.out).trans HC9.out
      have C1 := setPrice_any w.heap.size r st HT2.out.ok HT2.out.cS nY (by decide) (by rw [HT2.out.rY]; decide) 1 w10 HK10.out HL10.out HR.out
      rw [(errPr_none HT2.out.hY).1, (errPr_none HT2.out.hY).2] at C1
      clear hb10
      go_wp2_with fail
      refine C1.mono ?_
      rintro e w11 ⟨rfl, hk11, hb11, hl11⟩
      have C2 := setLimit_any w.heap.size r st HT2.out.ok HT2.out.cP nR (by decide) (by rw [HT2.out.rR]; decide) 1 w11 hk11 hl11 HR.out
      rw [(errLi_none HT2.out.hR).1, (errLi_none HT2.out.hR).2] at C2
      have HB11 := Lib.hid (HB10.out.trans hb11)
      clear hk11 hb11 hl11 C1
      go_wp2_with fail
      refine C2.mono ?_
      rintro e w12 ⟨rfl, _, hb12, _⟩
      have HB12 := Lib.hid (HB11.out.trans hb12)
      clear hb12 C2
      go_wp2
      go_ret
      exact ⟨rfl, HB12.out⟩
theorem rsets_walk (price limit other : Int) (w : World) : Calls Try.prog 5 #[.int .i64 price, .int .i64 limit, .int .i64 other] w fun e w' => e = .returned (.bool true) ∧ Below w.heap.size w w' := by
  have P : ∃ E a, errPr se2 nX price = E ∧ Told (setPr se2 nX price) a 7 ∧ ((E = 0 ∧ a = price ∧ 0 ≤ price ∧ price ≤ 1099511627776) ∨ (E = 1 ∧ a = 5 ∧ ¬ 0 ≤ price) ∨ (E = 1 ∧ a = 5 ∧ 0 ≤ price ∧ ¬ price ≤ 1099511627776)) := by
    rcases told1 price with ⟨h, h1, h2⟩ | ⟨h, h1, h2⟩
    · have := inB_yes.1 h
      exact ⟨0, price, h1, h2, .inl ⟨rfl, rfl, this.1, this.2⟩⟩
    · have := inB_no.1 h
      exact ⟨1, 5, h1, h2, .inr (if h0 : 0 ≤ price then .inr ⟨rfl, rfl, h0, by omega⟩ else .inl ⟨rfl, rfl, h0⟩)⟩
  obtain ⟨E, a, hE, T1, hp⟩ := P
  have Q : ∃ F p, errLi (setPr se2 nX price) nP limit = F ∧ Told (setLi (setPr se2 nX price) nP limit) a p ∧ ((F = 0 ∧ p = limit ∧ 0 ≤ limit ∧ limit ≤ 1152921504606846976) ∨ (F = 1 ∧ p = 7 ∧ ¬ 0 ≤ limit) ∨ (F = 1 ∧ p = 7 ∧ 0 ≤ limit ∧ ¬ limit ≤ 1152921504606846976)) := by
    rcases told2 T1 limit with ⟨h, h1, h2⟩ | ⟨h, h1, h2⟩
    · have := inB_yes.1 h
      exact ⟨0, limit, h1, h2, .inl ⟨rfl, rfl, this.1, this.2⟩⟩
    · have := inB_no.1 h
      exact ⟨1, 7, h1, h2, .inr (if h0 : 0 ≤ limit then .inr ⟨rfl, rfl, h0, by omega⟩ else .inl ⟨rfl, rfl, h0⟩)⟩
  obtain ⟨F, p, hF, T2, hl⟩ := Q
  exact rsets_core price limit other E F a p hE hF T1 T2 hp hl w
end Go.Proofs.Ytnpkplegeddhcaa
