/-
  Chapter 9's first call, whose answer the document fixes.
  Conditions: none.
-/
import Derived.Test.YtnpkplegeddhcaaRef6
namespace Go.Proofs.Ytnpkplegeddhcaa
open Go.RowKit Go.Maps Go.Shelf

/-- Records in a new block. -/
theorem rows_newN {α : Type} [Kd α] (w : World) (l : List α) (T : TypeId) (cs : Array Value) {N : Nat} (hcs : cs.toList = cellsOf l) (hN : ∀ x ∈ l, (Kd.val x).cells.size = N) : RowsAt (w.alloc (.cells cs T)) (w.alloc (.cells cs T)).heap.size (some ⟨w.heap.size, 0, none⟩) N l := by
  refine ⟨fun _ => ⟨_, rfl, by simp, fun k x hx j u hu => ?_⟩⟩
  rw [add_of_add]
  have h : (w.alloc (.cells cs T)).heap[w.heap.size]? = some (.cells cs T (0, 0)) := heap_alloc_new w _
  have e : ∀ j, ((⟨w.heap.size, 0, none⟩ : Addr).add j) = ⟨w.heap.size, j, none⟩ := by
    intro j
    unfold Addr.add; split
    · rename_i h; subst h; rfl
    · simp
  rw [e]
  simp only [World.cell?, h]
  have := cells_at hN hx hu
  rw [← hcs] at this
  simpa using this
theorem RefAt.mv {r x : Nat} {st : Rf} {w w' : World} (h : RefAt x st w) (hm : Mv [r] [r] w w') {st' : Rf} (hr : RefAt r st' w) (hne : x ≠ r) : RefAt x st w' := by
  obtain ⟨_, _, _, _, hb, _⟩ := hr
  have hx := h.lt
  obtain ⟨c, vp, va, vs, h1, hp, ha, h2, h3, h4, h5, h6⟩ := h
  have keep : ∀ {α : Type} [Kd α] {v : Value} {D : DataW Unit}, MapAt α v D w → MapAt α v D w' := by
    intro α _ v D hm2
    rcases hm2 with h | ⟨b, h7, h8⟩
    · exact .inl h
    · exact .inr ⟨b, h7, own_keep h8 (hm.block b h8.lt (by have := blk_own_ne h8 hb; simpa using this))⟩
  refine ⟨c, vp, va, vs, (hm.block x hx (by simpa using hne)).trans h1, hp, ha, keep h2, keep h3, keep h4, ?_, h6⟩
  have hcl := h5.lt
  obtain ⟨b, n, h9, h10⟩ := h5
  have hcr : c ≠ r := by
    rintro rfl
    rw [hb] at h9
    injection h9 with h9
    injection h9 with _ h9
    exact absurd h9 (by decide)
  refine ⟨b, n, (hm.block c hcl (by simpa using hcr)).trans h9, ?_⟩
  have hbr := blk_own_ne h10 hb
  have hbl := h10.lt
  obtain ⟨es, clock, h11, h12⟩ := h10
  exact ⟨es, clock, (hm.block b hbl (by simpa using hbr)).trans h11, h12⟩
theorem RefAt.cal {r : Nat} {st : Rf} {w : World} (h : RefAt r st w) : ∃ c, w.cell? ⟨r, 0, none⟩ = some (.pointer (some ⟨c, 0, none⟩)) ∧ CalAt c (setD []) w := by
  obtain ⟨c, vp, va, vs, h1, hp, ha, h2, h3, h4, h5, h6⟩ := h
  exact ⟨c, by rw [Lib.cell_of_heap h1]; rfl, h5⟩
def tP : ByteArray := ⟨#[80]⟩
def tA : ByteArray := ⟨#[65]⟩
def al1 : Rf := addP rf0 [⟨tP, 10⟩]
theorem al_e1 : errP rf0 [⟨tP, 10⟩] = 0 := by decide +kernel
theorem al_e2 : errC al1 [⟨tA, tP⟩, ⟨tA, tP⟩] = 8 := by decide +kernel
theorem al_s2 : addC al1 [⟨tA, tP⟩, ⟨tA, tP⟩] = al1 := by
  unfold addC outR
  rw [if_neg (by have := al_e2; unfold errC at this; rw [this]; decide)]
theorem al_h1 : hasS al1.a tA = false := by decide +kernel
theorem al_h2 : hasS al1.p bankS = true := by decide +kernel
theorem al_r2 : (recAt Party al1.p bankS).limit = 0 := by decide +kernel
theorem al_b4 : isB (setD []) 4 = true := by decide +kernel
theorem al_b5 : isB (setD []) 5 = false := by decide +kernel
theorem al_ok : al1.Ok := addP_ok rf0_ok _
theorem rows_len {α : Type} [Kd α] {D : DataW Unit} (h : GoodR α D) : (rowsOf α D).length = Maps.size D := by unfold rowsOf; rw [List.length_map, lstS_len h.keys]
theorem al_n : (rowsOf Party al1.p).length = 2 := by rw [rows_len al_ok.gp]; decide +kernel

set_option maxHeartbeats 4000000 in
set_option maxRecDepth 10000 in
theorem alive9_any (w : World) : Calls Try.prog 7 #[] w fun e w' => e = .returned (.bool true) ∧ Below w.heap.size w w' := by
  go_enter Try.func7, Try.ntmps7
  go_wp2_with fail
  refine (new_nil w).mono ?_
  rintro e w1 ⟨r, rfl, hr, hk1, hb1, _⟩
  have HB1 := Lib.hid hb1
  have HK1 := Lib.hid hk1
  clear hk1 hb1
  have HP := addParties_any r rf0 rf0_ok [⟨tP, 10⟩] (some ⟨w1.heap.size, 0, none⟩) 1 _ (HK1.out.below ((Below.refl _ _).alloc (Nat.le_refl _) (.cells #[.string ⟨#[80]⟩, .int .i64 10] 37))) (rows_newN (N := 2) w1 ([⟨tP, 10⟩] : List Party) 37 #[.string ⟨#[80]⟩, .int .i64 10] rfl (fun _ _ => rfl)) (by decide)
  rw [al_e1] at HP
  go_wp2_with fail
  refine HP.mono ?_
  rintro e w2 ⟨rfl, hk2, hm2⟩
  have hz2 := hm2.mv.size
  have hb2 : Below w.heap.size w w2 := (HB1.out.alloc HB1.out.size _).trans (hm2.mv.below (by simpa using hr) (by have := HB1.out.size; simp; omega))
  have HB2 := Lib.hid hb2
  have HK2 : Hid (RefAt r al1 w2) := hk2
  clear hk2 hb2 hm2 HP HK1 HB1 hz2
  have HC := addAccounts_any r al1 al_ok [⟨tA, tP⟩, ⟨tA, tP⟩] (some ⟨w2.heap.size, 0, none⟩) 2 _ (HK2.out.below ((Below.refl _ _).alloc (Nat.le_refl _) (.cells #[.string ⟨#[65]⟩, .string ⟨#[80]⟩, .string ⟨#[65]⟩, .string ⟨#[80]⟩] 40))) (rows_newN (N := 2) w2 ([⟨tA, tP⟩, ⟨tA, tP⟩] : List Account) 40 #[.string ⟨#[65]⟩, .string ⟨#[80]⟩, .string ⟨#[65]⟩, .string ⟨#[80]⟩] rfl (fun _ _ => rfl)) (by decide) (by intro x hx; simp at hx; subst hx; decide)
  rw [al_e2, al_s2] at HC
  go_wp2_with fail
  refine HC.mono ?_
  rintro e w3 ⟨rfl, hk3, hm3⟩
  have hb3 : Below w.heap.size w w3 := (HB2.out.alloc HB2.out.size _).trans (hm3.mv.below (by simpa using hr) (by have := HB2.out.size; simp; omega))
  have HB3 := Lib.hid hb3
  have HK3 := Lib.hid hk3
  clear hk3 hb3 hm3 HC HK2 HB2
  have HG := getC_any r al1 al_ok.ga tA (by decide) w3 HK3.out
  rw [al_h1] at HG
  obtain ⟨y, hy⟩ : ∃ y, recAt Account al1.a tA = y := ⟨_, rfl⟩
  rw [hy] at HG
  clear hy
  obtain ⟨n1, p1⟩ := y
  have HG2 : Calls Try.prog 22 #[.pointer (some ⟨r, 0, none⟩), .string ⟨#[65]⟩] w3 fun e w' => e = .returned (.tuple #[.agg #[.string n1, .string p1], .bool false]) ∧ Below w3.heap.size w3 w' := HG
  clear HG
  go_wp2_with fail
  refine HG2.mono ?_
  rintro e w4 ⟨rfl, hb4⟩
  have hB4 : Below w.heap.size w (w4.alloc (.cells #[.string n1, .string p1] 40)) := (HB3.out.trans (hb4.mono HB3.out.size)).alloc (by have := HB3.out.size; have := hb4.size; omega) _
  have hk4 : RefAt r al1 (w4.alloc (.cells #[.string n1, .string p1] 40)) := (HK3.out.below hb4).below ((Below.refl _ _).alloc (Nat.le_refl _) _)
  obtain ⟨W4, hW4⟩ : ∃ W4, w4.alloc (.cells #[.string n1, .string p1] 40) = W4 := ⟨_, rfl⟩
  rw [hW4] at hB4 hk4
  have HB4 := Lib.hid hB4; have HK4 := Lib.hid hk4; have HW4 := Lib.hid hW4
  clear hB4 hk4 hW4 hb4 HB3 HK3 HG2
  have HG := getP_any r al1 al_ok.gp bankS (by decide) W4 HK4.out
  rw [al_h2] at HG
  have hlim := al_r2
  obtain ⟨y, hy⟩ : ∃ y, recAt Party al1.p bankS = y := ⟨_, rfl⟩
  rw [hy] at HG hlim
  clear hy
  obtain ⟨n2, l2⟩ := y
  have hl2 : l2 = 0 := hlim
  subst hl2
  clear hlim
  have HG2 : Calls Try.prog 21 #[.pointer (some ⟨r, 0, none⟩), .string ⟨#[66, 65, 78, 75]⟩] W4 fun e w' => e = .returned (.tuple #[.agg #[.string n2, .int .i64 0], .bool true]) ∧ Below W4.heap.size W4 w' := HG
  clear HG
  go_wp2_with fail
  rw [HW4.out]
  refine HG2.mono ?_
  rintro e w5 ⟨rfl, hb5⟩
  have hB5 : Below w.heap.size w (w5.alloc (.cells #[.string n2, .int .i64 0] 37)) := (HB4.out.trans (hb5.mono HB4.out.size)).alloc (by have := HB4.out.size; have := hb5.size; omega) _
  have hk5 : RefAt r al1 (w5.alloc (.cells #[.string n2, .int .i64 0] 37)) := (HK4.out.below hb5).below ((Below.refl _ _).alloc (Nat.le_refl _) _)
  have hc5 : (w5.alloc (.cells #[.string n2, .int .i64 0] 37)).cell? ⟨w5.heap.size, 1, none⟩ = some (.int .i64 0) := by rw [Lib.cell_of_heap (heap_alloc_new w5 _)]; rfl
  obtain ⟨W5, hW5⟩ : ∃ W5, w5.alloc (.cells #[.string n2, .int .i64 0] 37) = W5 := ⟨_, rfl⟩
  rw [hW5] at hB5 hk5 hc5
  obtain ⟨c, hcal, hcat⟩ := hk5.cal
  have hcell5 : w5.cell? ⟨r, 0, none⟩ = some (.pointer (some ⟨c, 0, none⟩)) := by rw [← hcal, ← hW5]; exact (World.cell?_alloc_lt _ _ ⟨r, 0, none⟩ (HK4.out.below hb5).lt).symm
  have hrl5 := (HK4.out.below hb5).lt
  have HB5 := Lib.hid hB5; have HK5 := Lib.hid hk5; have HW5 := Lib.hid hW5
  have I4 := is_any c (setD []) 4 (by decide) (by decide) W5 hcat
  rw [al_b4] at I4
  clear hB5 hk5 hW5 hb5 HB4 HK4 HG2 HW4
  go_wp2_with fail
  rw [HW5.out]
  refine I4.mono ?_
  rintro e w6 ⟨rfl, hb6⟩
  have I5 := is_any c (setD []) 5 (by decide) (by decide) w6 (hcat.below hb6)
  rw [al_b5] at I5
  have hcal6 : w6.cell? ⟨r, 0, none⟩ = some (.pointer (some ⟨c, 0, none⟩)) := (hb6.cell (p := ⟨r, 0, none⟩) HK5.out.lt).trans hcal
  have HK6 := Lib.hid (HK5.out.below hb6)
  have HB6 := Lib.hid (HB5.out.trans (hb6.mono HB5.out.size))
  clear hb6 HK5 HB5 hcal hcat I4 HW5 hcell5 hc5
  go_wp2_with fail
  refine I5.mono ?_
  rintro e w7 ⟨rfl, hb7⟩
  have HK7 := Lib.hid (HK6.out.below hb7)
  have HB7 := Lib.hid (HB6.out.trans (hb7.mono HB6.out.size))
  clear hb7 HK6 HB6 I5 hcal6
  have HL := allP_any r al1 al_ok w7 HK7.out
  rw [al_n] at HL
  go_wp2_with fail
  refine HL.mono ?_
  rintro e w8 ⟨A, cap, rfl, _, hb8⟩
  have HB8 := Lib.hid (HB7.out.trans (hb8.mono HB7.out.size))
  clear hb8 HL HK7 HB7
  go_wp2
  go_ret
  exact ⟨rfl, HB8.out⟩
end Go.Proofs.Ytnpkplegeddhcaa
