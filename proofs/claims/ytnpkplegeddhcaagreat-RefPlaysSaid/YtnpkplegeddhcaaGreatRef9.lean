/-
 Package ref as contracts: an asset looked up, a price set, in data whose map of assets may be nil.
 Conditions: the caller's memory stays.
-/
import Derived.Test.YtnpkplegeddhcaaGreatRef5
namespace Go.Proofs.YtnpkplegeddhcaaGreat
open Go.RowKit Go.Maps Go.Shelf

/-- Every block of cells stays as it was. -/
def CK (w w' : World) : Prop := ∀ (k : Nat) (cs : Array Value) (t : TypeId) (fr : Nat × Nat), w.heap[k]? = some (.cells cs t fr) → w'.heap[k]? = some (.cells cs t fr)
theorem CK.of_below {w w' : World} (h : Below w.heap.size w w') : CK w w' := fun k _ _ _ hk => (h.block k (Array.getElem?_eq_some_iff.1 hk).1).trans hk
theorem CK.trans {a b c : World} (h : CK a b) (h' : CK b c) : CK a c := fun k _ _ _ hk => h' k _ _ _ (h k _ _ _ hk)
theorem CK.grown {w w' : World} {H : Type} {R : Value → Option (DataW H × List MemPlace)} {t : TypeId} {b n : Nat} {D : DataW H} (ho : w.ownsMap Tryz.prog t R b n D) (hg : w.grownBy w' (some b)) : CK w w' := fun k cs t' fr hk => by
 refine (hg.block k (Array.getElem?_eq_some_iff.1 hk).1 fun e => ?_).trans hk
 injection e with e
 subst e
 obtain ⟨es, clock, h1, _⟩ := ho
 rw [hk] at h1
 cases h1
/-- Two maps of different kinds are no same one, if the first has something in it. -/
theorem own_sep {α : Type} [Kd α] {H : Type} {R' : Value → Option (DataW H × List MemPlace)} {w : World} {k k' : TypeId} {b b' n n' : Nat} {D : DataW Unit} {D' : DataW H}
  (h : w.ownsMap Tryz.prog k (Kd.E α) b n D) (h' : w.ownsMap Tryz.prog k' R' b' n' D') (hne : Maps.size D ≠ 0) (hR : ∀ x : α, R' (Kd.val x) = none) : b ≠ b' := by
 rintro rfl
 obtain ⟨es, clock, hb, F, hs, hD⟩ := h
 obtain ⟨es', clock', hb', F', hs', hD'⟩ := h'
 rw [hb] at hb'
 injection hb' with hb'
 injection hb' with hb' _
 subst hb'
 rw [hD, size_eq, length_read] at hne
 have hne2 : es.toList.length ≠ 0 := by simpa using hne
 obtain ⟨x, hx⟩ : ∃ x, x ∈ es.toList := ⟨es.toList[0]'(by omega), List.getElem_mem _⟩
 obtain ⟨y, hy⟩ := F.reads x hx
 obtain ⟨z, hz, _⟩ := WideElems.rd_val hy
 obtain ⟨a, ha, _⟩ := Kd.E_inv _ z hz
 obtain ⟨y', hy'⟩ := F'.reads x hx
 obtain ⟨z', hz', _⟩ := WideElems.rd_val hy'
 rw [ha, hR] at hz'
 cases hz'
theorem MapAt.grown {α : Type} [Kd α] {β : Type} [Kd β] {w w' : World} {b n : Nat} {E D : DataW Unit} {v : Value} (hown : w.ownsMap Tryz.prog 9 (Kd.E β) b n E) (hne : Maps.size E ≠ 0) (hg : w.grownBy w' (some b)) (hR : ∀ x : β, Kd.E α (Kd.val x) = none) (hm : MapAt α v D w) : MapAt α v D w' := by
 rcases hm with h | ⟨b2, h7, h8⟩
 ·exact .inl h
 ·exact .inr ⟨b2, h7, own_keep h8 (hg.block b2 h8.lt (by intro e; injection e with e; exact own_sep hown h8 hne hR e.symm))⟩
theorem CalAt.grown {β : Type} [Kd β] {w w' : World} {b n c : Nat} {E D : DataW Unit} (hown : w.ownsMap Tryz.prog 9 (Kd.E β) b n E) (hne : Maps.size E ≠ 0) (hg : w.grownBy w' (some b)) (hR : ∀ x : β, unitElem (H := Unit) (Kd.val x) = none) (hm : CalAt c D w) : CalAt c D w' := by
 have hcl := hm.lt
 obtain ⟨b2, n2, h9, h10⟩ := hm
 have hcb : b ≠ c := blk_own_ne hown h9
 refine ⟨b2, n2, (hg.block c hcl (by intro e; injection e with e; exact hcb e.symm)).trans h9, ?_⟩
 have hb2 : b ≠ b2 := own_sep hown h10 hne hR
 have hbl := h10.lt
 obtain ⟨es, clock, h11, h12⟩ := h10
 exact ⟨es, clock, (hg.block b2 hbl (by intro e; injection e with e; exact hb2 e.symm)).trans h11, h12⟩
theorem Lows.grown {B r b : Nat} {w w' : World} {H : Type} {R : Value → Option (DataW H × List MemPlace)} {t : TypeId} {n : Nat} {D : DataW H} (h : Lows B r w) (ho : w.ownsMap Tryz.prog t R b n D) (hg : w.grownBy w' (some b)) : Lows B r w' := by
 have hlt := h.lt
 obtain ⟨c, vp, va, vs, h1, h2⟩ := h
 exact ⟨c, vp, va, vs, (hg.block r hlt (by intro e; injection e with e; exact blk_own_ne ho h1 e.symm)).trans h1, h2⟩
theorem Lows.at1 {B r b : Nat} {w : World} (h : Lows B r w) (hc : w.cell? ⟨r, 1, none⟩ = some (.map (some b))) : B ≤ b := by
 obtain ⟨c, vp, va, vs, h1, hp, ha, hs, _⟩ := h
 rw [Lib.cell_of_heap h1] at hc
 injection hc with hc
 exact hp b hc
theorem Lows.at3 {B r b : Nat} {w : World} (h : Lows B r w) (hc : w.cell? ⟨r, 3, none⟩ = some (.map (some b))) : B ≤ b := by
 obtain ⟨c, vp, va, vs, h1, hp, ha, hs, _⟩ := h
 rw [Lib.cell_of_heap h1] at hc
 injection hc with hc
 exact hs b hc
theorem RefAt.upS {r b n : Nat} {st : Rf} {w w' : World} {D' : DataW Unit} (h : RefAt r st w) (hne : Maps.size st.s ≠ 0) (hc : w.cell? ⟨r, 3, none⟩ = some (.map (some b))) (hown : w.ownsMap Tryz.prog 9 (Kd.E Asset) b (Maps.size st.s) st.s) (hg : w.grownBy w' (some b)) (ho : w'.ownsMap Tryz.prog 9 (Kd.E Asset) b n D') : RefAt r ⟨st.p, st.a, D', st.h⟩ w' := by
 have hlt := h.lt
 obtain ⟨c, vp, va, vs, h1, hp, ha, h2, h3, h4, h5, h6⟩ := h
 have e : vs = .map (some b) := by rw [Lib.cell_of_heap h1] at hc; injection hc
 subst e
 exact ⟨c, vp, va, _, (hg.block r hlt (by intro e; injection e with e; exact blk_own_ne hown h1 e.symm)).trans h1, hp, ha, h2.grown hown hne hg (fun _ => rfl), h3.grown hown hne hg (fun _ => rfl), .inr ⟨b, rfl, own_tight ho⟩, h5.grown hown hne hg (fun _ => rfl), h6⟩
theorem RefAt.upP {r b n : Nat} {st : Rf} {w w' : World} {D' : DataW Unit} (h : RefAt r st w) (hne : Maps.size st.p ≠ 0) (hc : w.cell? ⟨r, 1, none⟩ = some (.map (some b))) (hown : w.ownsMap Tryz.prog 9 (Kd.E Party) b (Maps.size st.p) st.p) (hg : w.grownBy w' (some b)) (ho : w'.ownsMap Tryz.prog 9 (Kd.E Party) b n D') : RefAt r ⟨D', st.a, st.s, st.h⟩ w' := by
 have hlt := h.lt
 obtain ⟨c, vp, va, vs, h1, hp, ha, h2, h3, h4, h5, h6⟩ := h
 have e : vp = .map (some b) := by rw [Lib.cell_of_heap h1] at hc; injection hc
 subst e
 exact ⟨c, _, va, vs, (hg.block r hlt (by intro e; injection e with e; exact blk_own_ne hown h1 e.symm)).trans h1, ⟨b, rfl⟩, ha, .inr ⟨b, rfl, own_tight ho⟩, h3.grown hown hne hg (fun _ => rfl), h4.grown hown hne hg (fun _ => rfl), h5.grown hown hne hg (fun _ => rfl), h6⟩
/-- What is wrong with a price, a limit; and the data behind it. -/
def errPr (st : Rf) (s : ByteArray) (n : Int) : Int := if hasS st.s s = false then 7 else if inB n 0 1099511627776 = false then 1 else if (recAt Asset st.s s).cash = true then 1 else 0
def errLi (st : Rf) (s : ByteArray) (n : Int) : Int := if hasS st.p s = false then 7 else if inB n 0 1152921504606846976 = false then 1 else 0
def setPr (st : Rf) (s : ByteArray) (n : Int) : Rf := if errPr st s n = 0 then ⟨st.p, st.a, putR st.s (recAt Asset st.s s).name { recAt Asset st.s s with price := n }, st.h⟩ else st
def setLi (st : Rf) (s : ByteArray) (n : Int) : Rf := if errLi st s n = 0 then ⟨putR st.p (recAt Party st.p s).name { recAt Party st.p s with limit := n }, st.a, st.s, st.h⟩ else st
theorem errPr_none {st : Rf} {s : ByteArray} {n : Int} (h : hasS st.s s = false) : errPr st s n = 7 ∧ setPr st s n = st := by unfold setPr errPr; rw [if_pos h]; exact ⟨rfl, if_neg (by decide)⟩
theorem errPr_in {st : Rf} {s : ByteArray} {n : Int} (h : hasS st.s s = true) (h1 : inB n 0 1099511627776 = false) : errPr st s n = 1 ∧ setPr st s n = st := by unfold setPr errPr; rw [if_neg (by rw [h]; decide), if_pos h1]; exact ⟨rfl, if_neg (by decide)⟩
theorem errPr_cash {st : Rf} {s : ByteArray} {n : Int} (h : hasS st.s s = true) (h1 : inB n 0 1099511627776 = true) (h2 : (recAt Asset st.s s).cash = true) : errPr st s n = 1 ∧ setPr st s n = st := by unfold setPr errPr; rw [if_neg (by rw [h]; decide), if_neg (by rw [h1]; decide), if_pos h2]; exact ⟨rfl, if_neg (by decide)⟩
theorem errPr_ok {st : Rf} {s : ByteArray} {n : Int} (h : hasS st.s s = true) (h1 : inB n 0 1099511627776 = true) (h2 : (recAt Asset st.s s).cash = false) : errPr st s n = 0 ∧ setPr st s n = ⟨st.p, st.a, putR st.s (recAt Asset st.s s).name { recAt Asset st.s s with price := n }, st.h⟩ := by unfold setPr errPr; rw [if_neg (by rw [h]; decide), if_neg (by rw [h1]; decide), if_neg (by rw [h2]; decide)]; exact ⟨rfl, if_pos rfl⟩
theorem errLi_none {st : Rf} {s : ByteArray} {n : Int} (h : hasS st.p s = false) : errLi st s n = 7 ∧ setLi st s n = st := by unfold setLi errLi; rw [if_pos h]; exact ⟨rfl, if_neg (by decide)⟩
theorem errLi_in {st : Rf} {s : ByteArray} {n : Int} (h : hasS st.p s = true) (h1 : inB n 0 1152921504606846976 = false) : errLi st s n = 1 ∧ setLi st s n = st := by unfold setLi errLi; rw [if_neg (by rw [h]; decide), if_pos h1]; exact ⟨rfl, if_neg (by decide)⟩
theorem errLi_ok {st : Rf} {s : ByteArray} {n : Int} (h : hasS st.p s = true) (h1 : inB n 0 1152921504606846976 = true) : errLi st s n = 0 ∧ setLi st s n = ⟨putR st.p (recAt Party st.p s).name { recAt Party st.p s with limit := n }, st.a, st.s, st.h⟩ := by unfold setLi errLi; rw [if_neg (by rw [h]; decide), if_neg (by rw [h1]; decide)]; exact ⟨rfl, if_pos rfl⟩

set_option maxHeartbeats 4000000 in
set_option maxRecDepth 10000 in
theorem setLimit_any (B r : Nat) (st : Rf) (hok : st.Ok) (hne : Maps.size st.p ≠ 0) (s : ByteArray) (hs : s.size ≤ 9223372036854775807) (hnm : (recAt Party st.p s).name.size ≤ 9223372036854775807) (n : Int) (w : World) (h : RefAt r st w) (hl : Lows B r w) (hB : B ≤ r) :
  Calls Tryz.prog 24 #[.pointer (some ⟨r, 0, none⟩), .string s, .int .i64 n] w fun e w' => e = .returned (.int .i64 (errLi st s n)) ∧ RefAt r (setLi st s n) w' ∧ Below B w w' ∧ Lows B r w' ∧ CK w w' := by
 have hrl := h.lt
 obtain ⟨b, hcell, hown, hbr⟩ := h.ownP
 have hBb := hl.at1 hcell
 have hlk0 := run_look_ok (α := Party) Tryz.underlying78 (zeroP w) hown hok.gp hs
 have HRW : Hid (∀ W : World, Below w.heap.size w W → RefAt r st W ∧ Lows B r W) := fun W hb => ⟨h.below hb, hl.below hb⟩
 have hsz20 : Maps.size st.p ≤ 20 := hok.np
 have HOW := Lib.hid hown
 have HNE := Lib.hid hne
 obtain ⟨y, hy⟩ : ∃ y, recAt Party st.p s = y := ⟨_, rfl⟩
 have HY := Lib.hid hy
 rw [hy] at hlk0 hnm
 clear hy hown h hl hok hne
 cases hh : hasS st.p s
 ·have HE := Lib.hid (errLi_none (n := n) hh)
  rw [hh] at hlk0
  have hlk : (Instr.lookup 78 (.map (some b)) (.string s) true).run Tryz.prog w = .ok (.tuple #[.agg #[.string y.name, .int .i64 y.limit], .bool false]) w := hlk0
  clear hlk0 hh
  go_enter Tryz.func24, Tryz.ntmps24
  go_wp2
  go_ret
  have hbb : Below w.heap.size w (w.alloc (.cells #[.string y.name, .int .i64 y.limit] 84)) := (Below.refl _ _).alloc (Nat.le_refl _) _
  rw [HE.out.1, HE.out.2]
  exact ⟨rfl, (HRW.out _ hbb).1, (Below.refl B w).alloc (by omega) _, (HRW.out _ hbb).2, CK.of_below hbb⟩
 ·rw [hh] at hlk0
  have HH := Lib.hid hh
  have hlk : (Instr.lookup 78 (.map (some b)) (.string s) true).run Tryz.prog w = .ok (.tuple #[.agg #[.string y.name, .int .i64 y.limit], .bool true]) w := hlk0
  clear hlk0 hh
  go_enter Tryz.func24, Tryz.ntmps24
  go_wp2_with fail
  refine (in_any n 0 1152921504606846976 _).mono ?_
  rintro e w1 ⟨rfl, rfl⟩
  have hbb : Below w.heap.size w (w.alloc (.cells #[.string y.name, .int .i64 y.limit] 84)) := (Below.refl _ _).alloc (Nat.le_refl _) _
  have HBB := Lib.hid hbb
  have HC1 : Hid ((w.alloc (.cells #[.string y.name, .int .i64 y.limit] 84)).heap[w.heap.size]? = some (.cells #[.string y.name, .int .i64 y.limit] 84 (0, 0))) := heap_alloc_new _ _
  clear hbb hlk
  cases h1 : inB n 0 1152921504606846976
  ·have HE := Lib.hid (errLi_in HH.out h1)
   clear h1
   go_wp2
   go_ret
   rw [HE.out.1, HE.out.2]
   exact ⟨rfl, (HRW.out _ HBB.out).1, (Below.refl B w).alloc (by omega) _, (HRW.out _ HBB.out).2, CK.of_below HBB.out⟩
  ·have HE := Lib.hid (errLi_ok HH.out h1)
   rw [HY.out] at HE

   have HB2 : Hid (Below B w (w.alloc (.cells #[.string y.name, .int .i64 n] 84))) := (Below.refl B w).alloc (by omega) _
   have HR2 : Hid (RefAt r st (w.alloc (.cells #[.string y.name, .int .i64 n] 84)) ∧ Lows B r (w.alloc (.cells #[.string y.name, .int .i64 n] 84))) := HRW.out _ ((Below.refl _ _).alloc (Nat.le_refl _) _)
   have HC2 : Hid ((w.alloc (.cells #[.string y.name, .int .i64 n] 84)).heap[w.heap.size]? = some (.cells #[.string y.name, .int .i64 n] 84 (0, 0))) := heap_alloc_new _ _
   have HM2 : Hid ((w.alloc (.cells #[.string y.name, .int .i64 n] 84)).ownsMap Tryz.prog 9 (Kd.E Party) b (Maps.size st.p) st.p) := own_keep HOW.out (Below.heap_alloc _ _ _ HOW.out.lt)
   have HR2' : Hid ((w.alloc (.cells #[.string y.name, .int .i64 n] 84)).cell? ⟨r, 1, none⟩ = some (.map (some b))) := (World.cell?_alloc_lt _ _ ⟨r, 1, none⟩ hrl).trans hcell
   have hbl : b < w.heap.size := HOW.out.lt
   clear h1 HC1 HBB
   go_wp2
   obtain ⟨W2, hW2⟩ : ∃ W2, (w.alloc (.cells #[.string y.name, .int .i64 n] 84)) = W2 := ⟨_, rfl⟩
   have HCK2 : Hid (CK w W2) := by show CK _ _; rw [← hW2]; exact CK.of_below ((Below.refl _ _).alloc (Nat.le_refl _) _)
   obtain ⟨c0, hc0⟩ : ∃ c0, w.heap.size = c0 := ⟨_, rfl⟩
   rw [hW2] at HC2 HM2 HB2 HR2 HR2' ⊢
   rw [hc0] at HC2 hrl hbl ⊢
   clear hW2 hcell
   obtain ⟨w7, hrun7, hown7, hgrow7⟩ := (show (W2.drew).ownsMap Tryz.prog 9 (Kd.E Party) b (Maps.size st.p) st.p from HM2.out).update keyT Tryz.underlying78 (by unfold maxLen; omega) (key_str (s := y.name) hnm) (Kd.E_mk (⟨y.name, n⟩ : Party))
   have hrun : (Instr.mapUpdate 78 (.map (some b)) (.string y.name) (.agg #[.string y.name, .int .i64 n])).run Tryz.prog W2.drew = .ok () w7 := hrun7
   have S6 : W2.cell? ⟨r, 1, none⟩ = some (.map (some b)) ∧ W2.cell? ⟨c0, 0, none⟩ = some (.string y.name) ∧ W2.cell? ⟨c0, 1, none⟩ = some (.int .i64 n) := ⟨HR2'.out, by rw [Lib.cell_of_heap HC2.out]; rfl, by rw [Lib.cell_of_heap HC2.out]; rfl⟩
   have hbc : b ≠ c0 := Nat.ne_of_lt hbl
   have hc7 : w7.heap[c0]? = some (.cells #[.string y.name, .int .i64 n] 84 (0, 0)) := (hgrow7.block c0 (Blk.lt (t := 84) HC2.out) (fun e => hbc (by injection e with e; exact e.symm))).trans HC2.out
   have HA7 := Lib.hid (show RefAt r ⟨putR st.p y.name (⟨y.name, n⟩ : Party), st.a, st.s, st.h⟩ w7 from RefAt.upP (show RefAt r st W2.drew from HR2.out.1) HNE.out HR2'.out (show (W2.drew).ownsMap Tryz.prog 9 (Kd.E Party) b (Maps.size st.p) st.p from HM2.out) hgrow7 hown7)
   have HL7 := Lib.hid (show Lows B r w7 from Lows.grown (show Lows B r W2.drew from HR2.out.2) (show (W2.drew).ownsMap Tryz.prog 9 (Kd.E Party) b (Maps.size st.p) st.p from HM2.out) hgrow7)
   have hr7 : w7.cell? ⟨r, 1, none⟩ = some (.map (some b)) := by
    have hq : w7.heap[r]? = W2.heap[r]? := hgrow7.block r HR2.out.1.lt (by intro e; injection e with e; exact hbr e.symm)
    obtain ⟨_, _, _, _, hh, _⟩ := HR2.out.1
    have h9 := HR2'.out
    rw [Lib.cell_of_heap hh] at h9
    rw [Lib.cell_of_heap (hq.trans hh)]
    exact h9
   have S7 : w7.cell? ⟨r, 1, none⟩ = some (.map (some b)) ∧ w7.cell? ⟨c0, 0, none⟩ = some (.string y.name) ∧ w7.cell? ⟨c0, 1, none⟩ = some (.int .i64 n) := ⟨hr7, by rw [Lib.cell_of_heap hc7]; rfl, by rw [Lib.cell_of_heap hc7]; rfl⟩
   have HB7 := Lib.hid (HB2.out.drew.grown hgrow7 (Nat.le_trans (show B ≤ w.heap.size by omega) HB2.out.size) (by intro j hj; injection hj with hj; omega))
   have HK7 : Hid (CK w w7) := HCK2.out.trans (show CK W2.drew w7 from CK.grown HM2.out hgrow7)
   clear hrun7 hown7 hgrow7 hc7 hr7 hc0
   go_region_held3 (fun V => V.cell? ⟨r, 1, none⟩ = some (.map (some b)) ∧ V.cell? ⟨c0, 0, none⟩ = some (.string y.name) ∧ V.cell? ⟨c0, 1, none⟩ = some (.int .i64 n)) (first | exact S6 | exact S7) (fail)
   go_wp2
   go_ret
   rw [HE.out.1, HE.out.2]
   exact ⟨rfl, HA7.out, HB7.out, HL7.out, HK7.out⟩

set_option maxHeartbeats 4000000 in
set_option maxRecDepth 10000 in
theorem setPrice_any (B r : Nat) (st : Rf) (hok : st.Ok) (hne : Maps.size st.s ≠ 0) (s : ByteArray) (hs : s.size ≤ 9223372036854775807) (hnm : (recAt Asset st.s s).name.size ≤ 9223372036854775807) (n : Int) (w : World) (h : RefAt r st w) (hl : Lows B r w) (hB : B ≤ r) :
  Calls Tryz.prog 22 #[.pointer (some ⟨r, 0, none⟩), .string s, .int .i64 n] w fun e w' => e = .returned (.int .i64 (errPr st s n)) ∧ RefAt r (setPr st s n) w' ∧ Below B w w' ∧ Lows B r w' ∧ CK w w' := by
 have hrl := h.lt
 obtain ⟨b, hcell, hown, hbr⟩ := h.ownS hne
 have hBb := hl.at3 hcell
 have hlk0 := run_look_ok (α := Asset) Tryz.underlying80 (zeroS w) hown hok.gs hs
 have HRW : Hid (∀ W : World, Below w.heap.size w W → RefAt r st W ∧ Lows B r W) := fun W hb => ⟨h.below hb, hl.below hb⟩
 have hsz20 : Maps.size st.s ≤ 20 := Nat.le_trans hok.ns (by decide)
 have HOW := Lib.hid hown
 have HNE := Lib.hid hne
 obtain ⟨y, hy⟩ : ∃ y, recAt Asset st.s s = y := ⟨_, rfl⟩
 have HY := Lib.hid hy
 rw [hy] at hlk0 hnm
 clear hy hown h hl hok hne
 cases hh : hasS st.s s
 ·have HE := Lib.hid (errPr_none (n := n) hh)
  rw [hh] at hlk0
  have hlk : (Instr.lookup 80 (.map (some b)) (.string s) true).run Tryz.prog w = .ok (.tuple #[.agg #[.string y.name, .bool y.cash, .bool y.pledge, .int .i64 y.unit, .int .i64 y.least, .int .i64 y.price, .int .i64 y.cut, .int .i64 y.close], .bool false]) w := hlk0
  clear hlk0 hh
  go_enter Tryz.func22, Tryz.ntmps22
  go_wp2
  go_ret
  have hbb : Below w.heap.size w (w.alloc (.cells #[.string y.name, .bool y.cash, .bool y.pledge, .int .i64 y.unit, .int .i64 y.least, .int .i64 y.price, .int .i64 y.cut, .int .i64 y.close] 92)) := (Below.refl _ _).alloc (Nat.le_refl _) _
  rw [HE.out.1, HE.out.2]
  exact ⟨rfl, (HRW.out _ hbb).1, (Below.refl B w).alloc (by omega) _, (HRW.out _ hbb).2, CK.of_below hbb⟩
 ·rw [hh] at hlk0
  have HH := Lib.hid hh
  have hlk : (Instr.lookup 80 (.map (some b)) (.string s) true).run Tryz.prog w = .ok (.tuple #[.agg #[.string y.name, .bool y.cash, .bool y.pledge, .int .i64 y.unit, .int .i64 y.least, .int .i64 y.price, .int .i64 y.cut, .int .i64 y.close], .bool true]) w := hlk0
  clear hlk0 hh
  go_enter Tryz.func22, Tryz.ntmps22
  go_wp2_with fail
  refine (in_any n 0 1099511627776 _).mono ?_
  rintro e w1 ⟨rfl, rfl⟩
  have hbb : Below w.heap.size w (w.alloc (.cells #[.string y.name, .bool y.cash, .bool y.pledge, .int .i64 y.unit, .int .i64 y.least, .int .i64 y.price, .int .i64 y.cut, .int .i64 y.close] 92)) := (Below.refl _ _).alloc (Nat.le_refl _) _
  have HBB := Lib.hid hbb
  have HC1 : Hid ((w.alloc (.cells #[.string y.name, .bool y.cash, .bool y.pledge, .int .i64 y.unit, .int .i64 y.least, .int .i64 y.price, .int .i64 y.cut, .int .i64 y.close] 92)).heap[w.heap.size]? = some (.cells #[.string y.name, .bool y.cash, .bool y.pledge, .int .i64 y.unit, .int .i64 y.least, .int .i64 y.price, .int .i64 y.cut, .int .i64 y.close] 92 (0, 0))) := heap_alloc_new _ _
  clear hbb hlk
  cases h1 : inB n 0 1099511627776
  ·have HE := Lib.hid (errPr_in HH.out h1)
   clear h1
   go_wp2
   go_ret
   rw [HE.out.1, HE.out.2]
   exact ⟨rfl, (HRW.out _ HBB.out).1, (Below.refl B w).alloc (by omega) _, (HRW.out _ HBB.out).2, CK.of_below HBB.out⟩
  ·cases hcash : y.cash
   ·have HE := Lib.hid (errPr_ok HH.out h1 (by rw [HY.out]; exact hcash))
    rw [HY.out] at HE
    have hy2 : { y with price := n } = (⟨y.name, false, y.pledge, y.unit, y.least, n, y.cut, y.close⟩ : Asset) := by
     obtain ⟨_, _, _, _, _, _, _, _⟩ := y
     rw [show _ = false from hcash]
    rw [hy2] at HE
    have HB2 : Hid (Below B w (w.alloc (.cells #[.string y.name, .bool false, .bool y.pledge, .int .i64 y.unit, .int .i64 y.least, .int .i64 n, .int .i64 y.cut, .int .i64 y.close] 92))) := (Below.refl B w).alloc (by omega) _
    have HR2 : Hid (RefAt r st (w.alloc (.cells #[.string y.name, .bool false, .bool y.pledge, .int .i64 y.unit, .int .i64 y.least, .int .i64 n, .int .i64 y.cut, .int .i64 y.close] 92)) ∧ Lows B r (w.alloc (.cells #[.string y.name, .bool false, .bool y.pledge, .int .i64 y.unit, .int .i64 y.least, .int .i64 n, .int .i64 y.cut, .int .i64 y.close] 92))) := HRW.out _ ((Below.refl _ _).alloc (Nat.le_refl _) _)
    have HC2 : Hid ((w.alloc (.cells #[.string y.name, .bool false, .bool y.pledge, .int .i64 y.unit, .int .i64 y.least, .int .i64 n, .int .i64 y.cut, .int .i64 y.close] 92)).heap[w.heap.size]? = some (.cells #[.string y.name, .bool false, .bool y.pledge, .int .i64 y.unit, .int .i64 y.least, .int .i64 n, .int .i64 y.cut, .int .i64 y.close] 92 (0, 0))) := heap_alloc_new _ _
    have HM2 : Hid ((w.alloc (.cells #[.string y.name, .bool false, .bool y.pledge, .int .i64 y.unit, .int .i64 y.least, .int .i64 n, .int .i64 y.cut, .int .i64 y.close] 92)).ownsMap Tryz.prog 9 (Kd.E Asset) b (Maps.size st.s) st.s) := own_keep HOW.out (Below.heap_alloc _ _ _ HOW.out.lt)
    have HR2' : Hid ((w.alloc (.cells #[.string y.name, .bool false, .bool y.pledge, .int .i64 y.unit, .int .i64 y.least, .int .i64 n, .int .i64 y.cut, .int .i64 y.close] 92)).cell? ⟨r, 3, none⟩ = some (.map (some b))) := (World.cell?_alloc_lt _ _ ⟨r, 3, none⟩ hrl).trans hcell
    have hbl : b < w.heap.size := HOW.out.lt
    clear h1 HC1 HBB hcash hy2
    go_wp2
    obtain ⟨W2, hW2⟩ : ∃ W2, (w.alloc (.cells #[.string y.name, .bool false, .bool y.pledge, .int .i64 y.unit, .int .i64 y.least, .int .i64 n, .int .i64 y.cut, .int .i64 y.close] 92)) = W2 := ⟨_, rfl⟩
    have HCK2 : Hid (CK w W2) := by show CK _ _; rw [← hW2]; exact CK.of_below ((Below.refl _ _).alloc (Nat.le_refl _) _)
    obtain ⟨c0, hc0⟩ : ∃ c0, w.heap.size = c0 := ⟨_, rfl⟩
    rw [hW2] at HC2 HM2 HB2 HR2 HR2' ⊢
    rw [hc0] at HC2 hrl hbl ⊢
    clear hW2 hcell
    obtain ⟨w7, hrun7, hown7, hgrow7⟩ := (show (W2.drew).ownsMap Tryz.prog 9 (Kd.E Asset) b (Maps.size st.s) st.s from HM2.out).update keyT Tryz.underlying80 (by unfold maxLen; omega) (key_str (s := y.name) hnm) (Kd.E_mk (⟨y.name, false, y.pledge, y.unit, y.least, n, y.cut, y.close⟩ : Asset))
    have hrun : (Instr.mapUpdate 80 (.map (some b)) (.string y.name) (.agg #[.string y.name, .bool false, .bool y.pledge, .int .i64 y.unit, .int .i64 y.least, .int .i64 n, .int .i64 y.cut, .int .i64 y.close])).run Tryz.prog W2.drew = .ok () w7 := hrun7
    have S6 : W2.cell? ⟨r, 3, none⟩ = some (.map (some b)) ∧ W2.cell? ⟨c0, 0, none⟩ = some (.string y.name) ∧ W2.cell? ⟨c0, 1, none⟩ = some (.bool false) ∧ W2.cell? ⟨c0, 2, none⟩ = some (.bool y.pledge) ∧ W2.cell? ⟨c0, 3, none⟩ = some (.int .i64 y.unit) ∧ W2.cell? ⟨c0, 4, none⟩ = some (.int .i64 y.least) ∧ W2.cell? ⟨c0, 5, none⟩ = some (.int .i64 n) ∧ W2.cell? ⟨c0, 6, none⟩ = some (.int .i64 y.cut) ∧ W2.cell? ⟨c0, 7, none⟩ = some (.int .i64 y.close) := ⟨HR2'.out, by rw [Lib.cell_of_heap HC2.out]; rfl, by rw [Lib.cell_of_heap HC2.out]; rfl, by rw [Lib.cell_of_heap HC2.out]; rfl, by rw [Lib.cell_of_heap HC2.out]; rfl, by rw [Lib.cell_of_heap HC2.out]; rfl, by rw [Lib.cell_of_heap HC2.out]; rfl, by rw [Lib.cell_of_heap HC2.out]; rfl, by rw [Lib.cell_of_heap HC2.out]; rfl⟩
    have hbc : b ≠ c0 := Nat.ne_of_lt hbl
    have hc7 : w7.heap[c0]? = some (.cells #[.string y.name, .bool false, .bool y.pledge, .int .i64 y.unit, .int .i64 y.least, .int .i64 n, .int .i64 y.cut, .int .i64 y.close] 92 (0, 0)) := (hgrow7.block c0 (Blk.lt (t := 92) HC2.out) (fun e => hbc (by injection e with e; exact e.symm))).trans HC2.out
    have HA7 := Lib.hid (show RefAt r ⟨st.p, st.a, putR st.s y.name (⟨y.name, false, y.pledge, y.unit, y.least, n, y.cut, y.close⟩ : Asset), st.h⟩ w7 from RefAt.upS (show RefAt r st W2.drew from HR2.out.1) HNE.out HR2'.out (show (W2.drew).ownsMap Tryz.prog 9 (Kd.E Asset) b (Maps.size st.s) st.s from HM2.out) hgrow7 hown7)
    have HL7 := Lib.hid (show Lows B r w7 from Lows.grown (show Lows B r W2.drew from HR2.out.2) (show (W2.drew).ownsMap Tryz.prog 9 (Kd.E Asset) b (Maps.size st.s) st.s from HM2.out) hgrow7)
    have hr7 : w7.cell? ⟨r, 3, none⟩ = some (.map (some b)) := by
     have hq : w7.heap[r]? = W2.heap[r]? := hgrow7.block r HR2.out.1.lt (by intro e; injection e with e; exact hbr e.symm)
     obtain ⟨_, _, _, _, hh, _⟩ := HR2.out.1
     have h9 := HR2'.out
     rw [Lib.cell_of_heap hh] at h9
     rw [Lib.cell_of_heap (hq.trans hh)]
     exact h9
    have S7 : w7.cell? ⟨r, 3, none⟩ = some (.map (some b)) ∧ w7.cell? ⟨c0, 0, none⟩ = some (.string y.name) ∧ w7.cell? ⟨c0, 1, none⟩ = some (.bool false) ∧ w7.cell? ⟨c0, 2, none⟩ = some (.bool y.pledge) ∧ w7.cell? ⟨c0, 3, none⟩ = some (.int .i64 y.unit) ∧ w7.cell? ⟨c0, 4, none⟩ = some (.int .i64 y.least) ∧ w7.cell? ⟨c0, 5, none⟩ = some (.int .i64 n) ∧ w7.cell? ⟨c0, 6, none⟩ = some (.int .i64 y.cut) ∧ w7.cell? ⟨c0, 7, none⟩ = some (.int .i64 y.close) := ⟨hr7, by rw [Lib.cell_of_heap hc7]; rfl, by rw [Lib.cell_of_heap hc7]; rfl, by rw [Lib.cell_of_heap hc7]; rfl, by rw [Lib.cell_of_heap hc7]; rfl, by rw [Lib.cell_of_heap hc7]; rfl, by rw [Lib.cell_of_heap hc7]; rfl, by rw [Lib.cell_of_heap hc7]; rfl, by rw [Lib.cell_of_heap hc7]; rfl⟩
    have HB7 := Lib.hid (HB2.out.drew.grown hgrow7 (Nat.le_trans (show B ≤ w.heap.size by omega) HB2.out.size) (by intro j hj; injection hj with hj; omega))
    have HK7 : Hid (CK w w7) := HCK2.out.trans (show CK W2.drew w7 from CK.grown HM2.out hgrow7)
    clear hrun7 hown7 hgrow7 hc7 hr7 hc0
    go_region_held3 (fun V => V.cell? ⟨r, 3, none⟩ = some (.map (some b)) ∧ V.cell? ⟨c0, 0, none⟩ = some (.string y.name) ∧ V.cell? ⟨c0, 1, none⟩ = some (.bool false) ∧ V.cell? ⟨c0, 2, none⟩ = some (.bool y.pledge) ∧ V.cell? ⟨c0, 3, none⟩ = some (.int .i64 y.unit) ∧ V.cell? ⟨c0, 4, none⟩ = some (.int .i64 y.least) ∧ V.cell? ⟨c0, 5, none⟩ = some (.int .i64 n) ∧ V.cell? ⟨c0, 6, none⟩ = some (.int .i64 y.cut) ∧ V.cell? ⟨c0, 7, none⟩ = some (.int .i64 y.close)) (first | exact S6 | exact S7) (fail)
    go_wp2
    go_ret
    rw [HE.out.1, HE.out.2]
    exact ⟨rfl, HA7.out, HB7.out, HL7.out, HK7.out⟩
   ·have HE := Lib.hid (errPr_cash HH.out h1 (by rw [HY.out]; exact hcash))
    clear h1 hcash
    go_wp2
    go_ret
    rw [HE.out.1, HE.out.2]
    exact ⟨rfl, (HRW.out _ ((Below.refl _ _).alloc (Nat.le_refl _) _)).1, (Below.refl B w).alloc (by omega) _, (HRW.out _ ((Below.refl _ _).alloc (Nat.le_refl _) _)).2, CK.of_below ((Below.refl _ _).alloc (Nat.le_refl _) _)⟩
end Go.Proofs.YtnpkplegeddhcaaGreat
namespace Go.Proofs.YtnpkplegeddhcaaGreat
open Go.RowKit Go.Maps Go.Shelf

theorem check_str (n : Nat) (s : ByteArray) (W : World) : (Instr.checkKey true (n + 1) 9 (.string s)).run Tryz.prog W = .ok () W := by
 have h2 := run_underlying Tryz.underlying9
 rw [Instr.checkKey]
 simp [h2, Result.andThen]
theorem look_nilS (s : ByteArray) (W : World) : (Instr.lookup 80 (.map none) (.string s) true).run Tryz.prog W = .ok (.tuple #[Kd.val (Kd.zero : Asset), .bool false]) W := by
 have h1 := run_underlying Tryz.underlying80
 have h2 := run_underlying Tryz.underlying9
 have h3 := zeroS W
 obtain ⟨M, hM⟩ : ∃ M : Nat, M = 10000 := ⟨_, rfl⟩
 have hc : (Instr.checkKey true M 9 (.string s)).run Tryz.prog W = .ok () W := by rw [hM]; exact check_str 9999 s W
 unfold Instr.lookup
 rw [← hM]
 clear hM
 simp [h1, h2, h3, hc, Instr.findKey, Instr.findNow, Result.andThen]
/-- The map of assets, nil or not, read at a name. -/
theorem look_assets {v : Value} {D : DataW Unit} {w : World} (h : MapAt Asset v D w) (hg : GoodR Asset D) {s : ByteArray} (hs : s.size ≤ 9223372036854775807) :
  (Instr.lookup 80 v (.string s) true).run Tryz.prog w = .ok (.tuple #[Kd.val (recAt Asset D s), .bool (hasS D s)]) w := by
 rcases h with ⟨rfl, rfl⟩ | ⟨b, rfl, h2⟩
 ·have hh : hasS (.map [] : DataW Unit) s = false := rfl
  rw [recAt_none hh, hh]
  exact look_nilS s w
 ·exact run_look_ok (α := Asset) Tryz.underlying80 (zeroS _) h2 hg hs
theorem size_of_has {α : Type} [Kd α] {D : DataW Unit} (hg : GoodR α D) {s : ByteArray} (h : hasS D s = true) : Maps.size D ≠ 0 := by
 obtain ⟨_, es, rfl, _⟩ := hg
 intro h0
 obtain rfl : es = [] := List.eq_nil_of_length_eq_zero h0
 cases h
set_option maxHeartbeats 4000000 in
set_option maxRecDepth 10000 in
theorem getN_any (r : Nat) (st : Rf) (hg : GoodR Asset st.s) (s : ByteArray) (hs : s.size ≤ 9223372036854775807) (w : World) (h : RefAt r st w) :
  Calls Tryz.prog 31 #[.pointer (some ⟨r, 0, none⟩), .string s] w fun e w' => e = .returned (.tuple #[Kd.val (recAt Asset st.s s), .bool (hasS st.s s)]) ∧ Below w.heap.size w w' := by
 have hrl := h.lt
 have hb0 : Below w.heap.size w (w.alloc (.cells #[.string ⟨#[]⟩, .bool false, .bool false, .int .i64 0, .int .i64 0, .int .i64 0, .int .i64 0, .int .i64 0] 92)) := (Below.refl _ _).alloc (Nat.le_refl _) _
 obtain ⟨v, hcell, hm⟩ := h.mapS
 have hvs : ∃ mb, v = .map mb := hm.elim (fun h => ⟨_, h.1⟩) (fun ⟨b, h, _⟩ => ⟨_, h⟩)
 obtain ⟨mb, rfl⟩ := hvs
 have hlk0 := look_assets (hm.below hb0) hg hs
 obtain ⟨y, hy⟩ : ∃ y, recAt Asset st.s s = y := ⟨_, rfl⟩
 obtain ⟨x, hx⟩ : ∃ x, hasS st.s s = x := ⟨_, rfl⟩
 rw [hy, hx] at hlk0
 rw [hy, hx]
 have hlk : (Instr.lookup 80 (.map mb) (.string s) true).run Tryz.prog (w.alloc (.cells #[.string ⟨#[]⟩, .bool false, .bool false, .int .i64 0, .int .i64 0, .int .i64 0, .int .i64 0, .int .i64 0] 92)) = .ok (.tuple #[.agg #[.string y.name, .bool y.cash, .bool y.pledge, .int .i64 y.unit, .int .i64 y.least, .int .i64 y.price, .int .i64 y.cut, .int .i64 y.close], .bool x]) (w.alloc (.cells #[.string ⟨#[]⟩, .bool false, .bool false, .int .i64 0, .int .i64 0, .int .i64 0, .int .i64 0, .int .i64 0] 92)) := hlk0
 have hpv : Kd.val y = .agg #[.string y.name, .bool y.cash, .bool y.pledge, .int .i64 y.unit, .int .i64 y.least, .int .i64 y.price, .int .i64 y.cut, .int .i64 y.close] := rfl
 rw [hpv]
 clear hlk0 hy hx hm h hpv hb0
 go_enter Tryz.func31, Tryz.ntmps31
 go_wp2
 have hk : ((w.alloc (.cells #[.string y.name, .bool y.cash, .bool y.pledge, .int .i64 y.unit, .int .i64 y.least, .int .i64 y.price, .int .i64 y.cut, .int .i64 y.close] 92)).alloc (.cells #[.string y.name, .bool y.cash, .bool y.pledge, .int .i64 y.unit, .int .i64 y.least, .int .i64 y.price, .int .i64 y.cut, .int .i64 y.close] 92)).heap[w.heap.size]? = some (.cells #[.string y.name, .bool y.cash, .bool y.pledge, .int .i64 y.unit, .int .i64 y.least, .int .i64 y.price, .int .i64 y.cut, .int .i64 y.close] 92 (0, 0)) := (Below.heap_alloc _ _ w.heap.size (by simp)).trans (heap_alloc_new w _)
 refine bodyPost_ret (results_cell_tmp_row rfl _ _ w.heap.size _ _ _ _ rfl hk Tryz.underlying92 rfl infoS) rfl ?_
 exact ⟨rfl, ((Below.refl w.heap.size w).alloc (Nat.le_refl _) _).alloc (by simp) _⟩
set_option maxHeartbeats 4000000 in
set_option maxRecDepth 10000 in
theorem setPrice_no (B r : Nat) (st : Rf) (hg : GoodR Asset st.s) (s : ByteArray) (hs : s.size ≤ 9223372036854775807) (hh : hasS st.s s = false) (n : Int) (w : World) (h : RefAt r st w) (hl : Lows B r w) (hB : B ≤ r) :
  Calls Tryz.prog 22 #[.pointer (some ⟨r, 0, none⟩), .string s, .int .i64 n] w fun e w' => e = .returned (.int .i64 (errPr st s n)) ∧ RefAt r (setPr st s n) w' ∧ Below B w w' ∧ Lows B r w' ∧ CK w w' := by
 have hrl := h.lt
 obtain ⟨v, hcell, hm⟩ := h.mapS
 have hvs : ∃ mb, v = .map mb := hm.elim (fun h => ⟨_, h.1⟩) (fun ⟨b, h, _⟩ => ⟨_, h⟩)
 obtain ⟨mb, rfl⟩ := hvs
 have hlk0 := look_assets hm hg hs
 have HRW : Hid (∀ W : World, Below w.heap.size w W → RefAt r st W ∧ Lows B r W) := fun W hb => ⟨h.below hb, hl.below hb⟩
 obtain ⟨y, hy⟩ : ∃ y, recAt Asset st.s s = y := ⟨_, rfl⟩
 have HE := Lib.hid (errPr_none (n := n) hh)
 rw [hy, hh] at hlk0
 have hlk : (Instr.lookup 80 (.map mb) (.string s) true).run Tryz.prog w = .ok (.tuple #[.agg #[.string y.name, .bool y.cash, .bool y.pledge, .int .i64 y.unit, .int .i64 y.least, .int .i64 y.price, .int .i64 y.cut, .int .i64 y.close], .bool false]) w := hlk0
 clear hlk0 hh hy hm h hl
 go_enter Tryz.func22, Tryz.ntmps22
 go_wp2
 go_ret
 have hbb : Below w.heap.size w (w.alloc (.cells #[.string y.name, .bool y.cash, .bool y.pledge, .int .i64 y.unit, .int .i64 y.least, .int .i64 y.price, .int .i64 y.cut, .int .i64 y.close] 92)) := (Below.refl _ _).alloc (Nat.le_refl _) _
 rw [HE.out.1, HE.out.2]
 exact ⟨rfl, (HRW.out _ hbb).1, (Below.refl B w).alloc (by omega) _, (HRW.out _ hbb).2, CK.of_below hbb⟩
theorem setPrice_all (B r : Nat) (st : Rf) (hok : st.Ok) (s : ByteArray) (hs : s.size ≤ 9223372036854775807) (hnm : hasS st.s s = true → (recAt Asset st.s s).name.size ≤ 9223372036854775807) (n : Int) (w : World) (h : RefAt r st w) (hl : Lows B r w) (hB : B ≤ r) :
  Calls Tryz.prog 22 #[.pointer (some ⟨r, 0, none⟩), .string s, .int .i64 n] w fun e w' => e = .returned (.int .i64 (errPr st s n)) ∧ RefAt r (setPr st s n) w' ∧ Below B w w' ∧ Lows B r w' ∧ CK w w' := by
 cases hh : hasS st.s s
 ·exact setPrice_no B r st hok.gs s hs hh n w h hl hB
 ·exact setPrice_any B r st hok (size_of_has hok.gs hh) s hs (hnm hh) n w h hl hB
end Go.Proofs.YtnpkplegeddhcaaGreat
