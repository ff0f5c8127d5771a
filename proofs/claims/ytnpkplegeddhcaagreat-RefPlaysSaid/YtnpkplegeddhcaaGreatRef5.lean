/-
 Package ref as contracts: AddParties, AddAccounts, AddAssets.
 Conditions: the caller's memory stays.
-/
import Derived.Test.YtnpkplegeddhcaaGreatRef2P
import Derived.Test.YtnpkplegeddhcaaGreatRef2C
import Derived.Test.YtnpkplegeddhcaaGreatRef2S
namespace Go.Proofs.YtnpkplegeddhcaaGreat
open Go.RowKit Go.Maps Go.Shelf

/-- What stands fast, in plain words. -/
structure Rf where
 p : DataW Unit
 a : DataW Unit
 s : DataW Unit
 h : DataW Unit
structure Rf.Ok (st : Rf) : Prop where
 gp : GoodR Party st.p
 ga : GoodR Account st.a
 gs : GoodR Asset st.s
 np : Maps.size st.p ≤ 20
 na : Maps.size st.a ≤ 20
 ns : Maps.size st.s ≤ 12
/-- Data in block r with a calendar in block c. -/
def RefAt (r : Nat) (st : Rf) (w : World) : Prop :=
 ∃ c vp va vs, w.heap[r]? = some (.cells #[.pointer (some ⟨c, 0, none⟩), vp, va, vs] 82 (0, 0)) ∧ (∃ b, vp = .map (some b)) ∧ (∃ b, va = .map (some b)) ∧ MapAt Party vp st.p w ∧ MapAt Account va st.a w ∧ MapAt Asset vs st.s w ∧ CalAt c st.h w ∧ c ≠ r
/-- No map of the data lies in a block under B. -/
def low (B : Nat) (v : Value) : Prop := ∀ b, v = .map (some b) → B ≤ b
def lowp (B : Nat) (v : Value) : Prop := ∀ b, v = .pointer (some ⟨b, 0, none⟩) → B ≤ b
def Lows (B r : Nat) (w : World) : Prop := ∃ c vp va vs, w.heap[r]? = some (.cells #[c, vp, va, vs] 82 (0, 0)) ∧ low B vp ∧ low B va ∧ low B vs ∧ lowp B c
theorem Lows.lt {B r : Nat} {w : World} (h : Lows B r w) : r < w.heap.size := by obtain ⟨_, _, _, _, h, _⟩ := h; exact Blk.lt (t := 82) h
theorem Lows.below {B r : Nat} {w w' : World} (h : Lows B r w) (hb : Below w.heap.size w w') : Lows B r w' := by
 have hlt := h.lt
 obtain ⟨c, vp, va, vs, h1, h2⟩ := h
 exact ⟨c, vp, va, vs, (hb.block r hlt).trans h1, h2⟩
theorem low_some {B b : Nat} (h : B ≤ b) : low B (.map (some b)) := by
 intro b' e
 injection e with e
 injection e with e
 omega
theorem low_none {B : Nat} : low B (.map none) := by
 intro b' e
 injection e with e
 cases e
def bankS : ByteArray := ⟨#[66, 65, 78, 75]⟩
def rf0 : Rf := ⟨putR (.map []) bankS (⟨bankS, 0⟩ : Party), putR (.map []) bankS (⟨bankS, bankS⟩ : Account), .map [], setD []⟩
theorem rf0_ok : rf0.Ok := ⟨goodR_none.put _ _, goodR_none.put _ _, goodR_none, by decide, by decide, by decide⟩
section
variable {r : Nat} {st : Rf} {w w' : World}
theorem RefAt.lt (h : RefAt r st w) : r < w.heap.size := by obtain ⟨_, _, _, _, h, _⟩ := h; exact Blk.lt (t := 82) h
theorem RefAt.below (h : RefAt r st w) (hb : Below w.heap.size w w') : RefAt r st w' := by
 have hlt := h.lt
 obtain ⟨c, vp, va, vs, h1, hp, ha, h2, h3, h4, h5, h6⟩ := h
 exact ⟨c, vp, va, vs, (hb.block r hlt).trans h1, hp, ha, h2.below hb, h3.below hb, h4.below hb, h5.below hb, h6⟩
theorem RefAt.drewN (h : RefAt r st w) (n : Nat) : RefAt r st (w.drewN n) := h
end
set_option maxHeartbeats 4000000 in
set_option maxRecDepth 10000 in
theorem new_nil (w : World) : Calls Tryz.prog 9 #[.pointer none] w fun e w' => ∃ r, e = .returned (.pointer (some ⟨r, 0, none⟩)) ∧ w.heap.size ≤ r ∧ RefAt r rf0 w' ∧ Below w.heap.size w w' ∧ Lows w.heap.size r w' := by
 have hmm := @run_makeMap Tryz.prog
 have he : errNew [] = 0 := by kernel_rfl
 have HN := new_any [] none 0 w Reads.none_ (by simp) (by simp)
 rw [he, if_pos rfl] at HN
 clear he
 go_enter Tryz.func9, Tryz.ntmps9
 go_wp2_with fail
 refine HN.mono ?_
 rintro e w1 ⟨rfl, hok, hb1⟩
 have HC := Lib.hid (hok rfl)
 have HB1 := Lib.hid hb1
 clear hok HN
 obtain ⟨w2, hr2, ho2, hg2⟩ := (show (w1.alloc (.map #[] 0)).ownsMap Tryz.prog 9 (Kd.E Party) w1.heap.size 0 (.map []) from World.ownsMap_made _ _ _ _).update keyT Tryz.underlying78 (by unfold maxLen; omega) (key_str (s := bankS) (by decide)) (Kd.E_mk (⟨bankS, 0⟩ : Party))
 have hrun2 : (Instr.mapUpdate 78 (.map (some w1.heap.size)) (.string ⟨#[66, 65, 78, 75]⟩) (.agg #[.string ⟨#[66, 65, 78, 75]⟩, .int .i64 0])).run Tryz.prog (w1.alloc (.map #[] 0)) = .ok () w2 := hr2
 obtain ⟨w3, hr3, ho3, hg3⟩ := (show (w2.alloc (.map #[] 0)).ownsMap Tryz.prog 9 (Kd.E Account) w2.heap.size 0 (.map []) from World.ownsMap_made _ _ _ _).update keyT Tryz.underlying79 (by unfold maxLen; omega) (key_str (s := bankS) (by decide)) (Kd.E_mk (⟨bankS, bankS⟩ : Account))
 have hrun3 : (Instr.mapUpdate 79 (.map (some w2.heap.size)) (.string ⟨#[66, 65, 78, 75]⟩) (.agg #[.string ⟨#[66, 65, 78, 75]⟩, .string ⟨#[66, 65, 78, 75]⟩])).run Tryz.prog (w2.alloc (.map #[] 0)) = .ok () w3 := hr3
 have hz1 := hb1.size
 have hz2 := hg2.size
 have hz3 := hg3.size
 simp only [World.size_alloc] at hz2 hz3
 have hlc := HC.out.lt
 have hb13 : Below w1.heap.size w1 w3 := (((Below.refl w1.heap.size w1).alloc (Nat.le_refl _) _).grown hg2 (by simp) (by intro j hj; injection hj with hj; omega)).trans (((Below.refl w1.heap.size w2).alloc (by omega) _).grown hg3 (by simp; omega) (by intro j hj; injection hj with hj; omega))
 have HB3 := Lib.hid hb13
 have HP2 := Lib.hid (own_tight ho2)
 have HA3 := Lib.hid (own_tight ho3)
 have HP3 := Lib.hid (own_keep HP2.out ((hg3.block w1.heap.size (by simp; omega) (fun e => by injection e with e; omega)).trans (Below.heap_alloc w2 _ w1.heap.size (by omega))))
 clear hr2 hr3 ho2 ho3 hg2 hg3 hb1 hb13
 go_wp2
 go_ret
 have hlm : w2.heap.size < w3.heap.size := by omega
 refine ⟨w3.heap.size, rfl, by omega, ⟨w.heap.size, .map (some w1.heap.size), .map (some w2.heap.size), .map none, heap_alloc_new _ _, ⟨_, rfl⟩, ⟨_, rfl⟩, .inr ⟨_, rfl, ?_⟩, .inr ⟨_, rfl, ?_⟩, .inl ⟨rfl, rfl⟩, ?_, by omega⟩, ?_, ⟨_, _, _, _, heap_alloc_new _ _, low_some hz1, low_some (by omega), low_none, fun b e => by injection e with e; injection e with e; injection e with e _ _; omega⟩⟩
 ·exact own_keep HP3.out (Below.heap_alloc _ _ _ (by omega))
 ·exact own_keep HA3.out (Below.heap_alloc _ _ _ (by omega))
 ·exact (HC.out.below HB3.out).below ((Below.refl _ _).alloc (Nat.le_refl _) _)
 ·exact (HB1.out.trans (HB3.out.mono hz1)).alloc (by omega) _
end Go.Proofs.YtnpkplegeddhcaaGreat
namespace Go.Proofs.YtnpkplegeddhcaaGreat
open Go.RowKit Go.Maps Go.Shelf

theorem results_cell_tmp_row {P : Program} {fn : Func} {p u : Tmp} {ty : TypeId} (h : fn.results = #[.cell p ty, .tmp u]) (tmps : Array Value) (w : World) (g : Nat) (t : TypeId) (cs : Array Value) (fr : Nat × Nat) (d : TypeDesc)
  (hp : tmps.getD p undef = .pointer (some ⟨g, 0, none⟩)) (hg : w.heap[g]? = some (.cells cs t fr))
  (hu : P.underlying ty = some d) (hd : (match d with | .struct _ | .array _ _ => true | _ => false) = true) (hi : (P.info? ty).map (·.size) = some cs.size) :
  (results fn tmps).run P w = .ok (.tuple #[.agg cs, tmps.getD u undef]) w := by
 rw [results_cell_tmp h, hp]
 simp only [asAddr, Sem.run_pure, Result.andThen_ok, run_loadVar_row w g t ty cs fr d hg hu hd hi]
theorem infoP : (Tryz.prog.info? 84).map (·.size) = some 2 := by kernel_rfl
theorem infoC : (Tryz.prog.info? 88).map (·.size) = some 2 := by kernel_rfl
theorem infoS : (Tryz.prog.info? 92).map (·.size) = some 8 := by kernel_rfl

/-- The map that stands in a cell. -/
theorem RefAt.ownP {r : Nat} {st : Rf} {w : World} (h : RefAt r st w) : ∃ b, w.cell? ⟨r, 1, none⟩ = some (.map (some b)) ∧ w.ownsMap Tryz.prog 9 (Kd.E Party) b (Maps.size st.p) st.p ∧ b ≠ r := by
 obtain ⟨c, vp, va, vs, hb, ⟨b1, hp⟩, ⟨b2, ha⟩, m1, m2, m3, hc⟩ := h
 rcases m1 with ⟨h1, h2⟩ | ⟨b, h1, h2⟩
 ·rw [hp] at h1; cases h1
 ·refine ⟨b, by rw [Lib.cell_of_heap hb, ← h1]; rfl, h2, ?_⟩
  rintro rfl
  obtain ⟨es, clock, h3, _⟩ := h2
  rw [hb] at h3
  cases h3
set_option maxHeartbeats 4000000 in
set_option maxRecDepth 10000 in
theorem getP_any (r : Nat) (st : Rf) (hg : GoodR Party st.p) (s : ByteArray) (hs : s.size ≤ 9223372036854775807) (w : World) (h : RefAt r st w) :
  Calls Tryz.prog 27 #[.pointer (some ⟨r, 0, none⟩), .string s] w fun e w' => e = .returned (.tuple #[Kd.val (recAt Party st.p s), .bool (hasS st.p s)]) ∧ Below w.heap.size w w' := by
 have hrl := h.lt
 obtain ⟨b, hcell, hown, _⟩ := h.ownP
 have hlk0 := run_look_ok (α := Party) Tryz.underlying78 (zeroP _) (own_keep hown (Below.heap_alloc w (.cells #[.string ⟨#[]⟩, .int .i64 0] 84) b hown.lt)) hg hs
 obtain ⟨y, hy⟩ : ∃ y, recAt Party st.p s = y := ⟨_, rfl⟩
 obtain ⟨x, hx⟩ : ∃ x, hasS st.p s = x := ⟨_, rfl⟩
 rw [hy, hx] at hlk0
 rw [hy, hx]
 have hlk : (Instr.lookup 78 (.map (some b)) (.string s) true).run Tryz.prog (w.alloc (.cells #[.string ⟨#[]⟩, .int .i64 0] 84)) = .ok (.tuple #[.agg #[.string y.name, .int .i64 y.limit], .bool x]) (w.alloc (.cells #[.string ⟨#[]⟩, .int .i64 0] 84)) := hlk0
 have hpv : Kd.val y = .agg #[.string y.name, .int .i64 y.limit] := rfl
 rw [hpv]
 clear hlk0 hy hx hown h hpv
 go_enter Tryz.func27, Tryz.ntmps27
 go_wp2
 have hk : ((w.alloc (.cells #[.string y.name, .int .i64 y.limit] 84)).alloc (.cells #[.string y.name, .int .i64 y.limit] 84)).heap[w.heap.size]? = some (.cells #[.string y.name, .int .i64 y.limit] 84 (0, 0)) := (Below.heap_alloc _ _ _ (by simp)).trans (heap_alloc_new w _)
 refine bodyPost_ret (results_cell_tmp_row rfl _ _ w.heap.size _ _ _ _ rfl hk Tryz.underlying84 rfl infoP) rfl ?_
 exact ⟨rfl, ((Below.refl w.heap.size w).alloc (Nat.le_refl _) _).alloc (by simp) _⟩

/-- The map that stands in a cell. -/
theorem RefAt.ownC {r : Nat} {st : Rf} {w : World} (h : RefAt r st w) : ∃ b, w.cell? ⟨r, 2, none⟩ = some (.map (some b)) ∧ w.ownsMap Tryz.prog 9 (Kd.E Account) b (Maps.size st.a) st.a ∧ b ≠ r := by
 obtain ⟨c, vp, va, vs, hb, ⟨b1, hp⟩, ⟨b2, ha⟩, m1, m2, m3, hc⟩ := h
 rcases m2 with ⟨h1, h2⟩ | ⟨b, h1, h2⟩
 ·rw [ha] at h1; cases h1
 ·refine ⟨b, by rw [Lib.cell_of_heap hb, ← h1]; rfl, h2, ?_⟩
  rintro rfl
  obtain ⟨es, clock, h3, _⟩ := h2
  rw [hb] at h3
  cases h3
set_option maxHeartbeats 4000000 in
set_option maxRecDepth 10000 in
theorem getC_any (r : Nat) (st : Rf) (hg : GoodR Account st.a) (s : ByteArray) (hs : s.size ≤ 9223372036854775807) (w : World) (h : RefAt r st w) :
  Calls Tryz.prog 29 #[.pointer (some ⟨r, 0, none⟩), .string s] w fun e w' => e = .returned (.tuple #[Kd.val (recAt Account st.a s), .bool (hasS st.a s)]) ∧ Below w.heap.size w w' := by
 have hrl := h.lt
 obtain ⟨b, hcell, hown, _⟩ := h.ownC
 have hlk0 := run_look_ok (α := Account) Tryz.underlying79 (zeroC _) (own_keep hown (Below.heap_alloc w (.cells #[.string ⟨#[]⟩, .string ⟨#[]⟩] 88) b hown.lt)) hg hs
 obtain ⟨y, hy⟩ : ∃ y, recAt Account st.a s = y := ⟨_, rfl⟩
 obtain ⟨x, hx⟩ : ∃ x, hasS st.a s = x := ⟨_, rfl⟩
 rw [hy, hx] at hlk0
 rw [hy, hx]
 have hlk : (Instr.lookup 79 (.map (some b)) (.string s) true).run Tryz.prog (w.alloc (.cells #[.string ⟨#[]⟩, .string ⟨#[]⟩] 88)) = .ok (.tuple #[.agg #[.string y.name, .string y.party], .bool x]) (w.alloc (.cells #[.string ⟨#[]⟩, .string ⟨#[]⟩] 88)) := hlk0
 have hpv : Kd.val y = .agg #[.string y.name, .string y.party] := rfl
 rw [hpv]
 clear hlk0 hy hx hown h hpv
 go_enter Tryz.func29, Tryz.ntmps29
 go_wp2
 have hk : ((w.alloc (.cells #[.string y.name, .string y.party] 88)).alloc (.cells #[.string y.name, .string y.party] 88)).heap[w.heap.size]? = some (.cells #[.string y.name, .string y.party] 88 (0, 0)) := (Below.heap_alloc _ _ _ (by simp)).trans (heap_alloc_new w _)
 refine bodyPost_ret (results_cell_tmp_row rfl _ _ w.heap.size _ _ _ _ rfl hk Tryz.underlying88 rfl infoC) rfl ?_
 exact ⟨rfl, ((Below.refl w.heap.size w).alloc (Nat.le_refl _) _).alloc (by simp) _⟩
end Go.Proofs.YtnpkplegeddhcaaGreat
namespace Go.Proofs.YtnpkplegeddhcaaGreat
open Go.RowKit Go.Maps Go.Shelf

/-- The map that stands in a cell. -/
theorem RefAt.ownS {r : Nat} {st : Rf} {w : World} (h : RefAt r st w) (hne : Maps.size st.s ≠ 0) : ∃ b, w.cell? ⟨r, 3, none⟩ = some (.map (some b)) ∧ w.ownsMap Tryz.prog 9 (Kd.E Asset) b (Maps.size st.s) st.s ∧ b ≠ r := by
 obtain ⟨c, vp, va, vs, hb, ⟨b1, hp⟩, ⟨b2, ha⟩, m1, m2, m3, hc⟩ := h
 rcases m3 with ⟨h1, h2⟩ | ⟨b, h1, h2⟩
 ·exact absurd (by rw [h2]; rfl) hne
 ·refine ⟨b, by rw [Lib.cell_of_heap hb, ← h1]; rfl, h2, ?_⟩
  rintro rfl
  obtain ⟨es, clock, h3, _⟩ := h2
  rw [hb] at h3
  cases h3
set_option maxHeartbeats 4000000 in
set_option maxRecDepth 10000 in
theorem getS_any (r : Nat) (st : Rf) (hg : GoodR Asset st.s) (hne : Maps.size st.s ≠ 0) (s : ByteArray) (hs : s.size ≤ 9223372036854775807) (w : World) (h : RefAt r st w) :
  Calls Tryz.prog 31 #[.pointer (some ⟨r, 0, none⟩), .string s] w fun e w' => e = .returned (.tuple #[Kd.val (recAt Asset st.s s), .bool (hasS st.s s)]) ∧ Below w.heap.size w w' := by
 have hrl := h.lt
 obtain ⟨b, hcell, hown, _⟩ := h.ownS hne
 have hlk0 := run_look_ok (α := Asset) Tryz.underlying80 (zeroS _) (own_keep hown (Below.heap_alloc w (.cells #[.string ⟨#[]⟩, .bool false, .bool false, .int .i64 0, .int .i64 0, .int .i64 0, .int .i64 0, .int .i64 0] 92) b hown.lt)) hg hs
 obtain ⟨y, hy⟩ : ∃ y, recAt Asset st.s s = y := ⟨_, rfl⟩
 obtain ⟨x, hx⟩ : ∃ x, hasS st.s s = x := ⟨_, rfl⟩
 rw [hy, hx] at hlk0
 rw [hy, hx]
 have hlk : (Instr.lookup 80 (.map (some b)) (.string s) true).run Tryz.prog (w.alloc (.cells #[.string ⟨#[]⟩, .bool false, .bool false, .int .i64 0, .int .i64 0, .int .i64 0, .int .i64 0, .int .i64 0] 92)) = .ok (.tuple #[.agg #[.string y.name, .bool y.cash, .bool y.pledge, .int .i64 y.unit, .int .i64 y.least, .int .i64 y.price, .int .i64 y.cut, .int .i64 y.close], .bool x]) (w.alloc (.cells #[.string ⟨#[]⟩, .bool false, .bool false, .int .i64 0, .int .i64 0, .int .i64 0, .int .i64 0, .int .i64 0] 92)) := hlk0
 have hpv : Kd.val y = .agg #[.string y.name, .bool y.cash, .bool y.pledge, .int .i64 y.unit, .int .i64 y.least, .int .i64 y.price, .int .i64 y.cut, .int .i64 y.close] := rfl
 rw [hpv]
 clear hlk0 hy hx hown h hpv
 go_enter Tryz.func31, Tryz.ntmps31
 go_wp2
 have hk : ((w.alloc (.cells #[.string y.name, .bool y.cash, .bool y.pledge, .int .i64 y.unit, .int .i64 y.least, .int .i64 y.price, .int .i64 y.cut, .int .i64 y.close] 92)).alloc (.cells #[.string y.name, .bool y.cash, .bool y.pledge, .int .i64 y.unit, .int .i64 y.least, .int .i64 y.price, .int .i64 y.cut, .int .i64 y.close] 92)).heap[w.heap.size]? = some (.cells #[.string y.name, .bool y.cash, .bool y.pledge, .int .i64 y.unit, .int .i64 y.least, .int .i64 y.price, .int .i64 y.cut, .int .i64 y.close] 92 (0, 0)) := (Below.heap_alloc _ _ _ (by simp)).trans (heap_alloc_new w _)
 refine bodyPost_ret (results_cell_tmp_row rfl _ _ w.heap.size _ _ _ _ rfl hk Tryz.underlying92 rfl infoS) rfl ?_
 exact ⟨rfl, ((Below.refl w.heap.size w).alloc (Nat.le_refl _) _).alloc (by simp) _⟩
end Go.Proofs.YtnpkplegeddhcaaGreat
namespace Go.Proofs.YtnpkplegeddhcaaGreat
open Go.RowKit Go.Maps Go.Shelf

theorem RowsAt.below {α : Type} [Kd α] {w w' : World} {n : Nat} {A : Option Addr} {l : List α} (h : RowsAt w w.heap.size A n l) (hb : Below w.heap.size w w') : RowsAt w' w'.heap.size A n l := ⟨fun hn => by
 obtain ⟨ad, e, hB, hc⟩ := h.row hn
 exact ⟨ad, e, Nat.lt_of_lt_of_le hB hb.size, fun k x hx j v hv => (hb.cell (by rw [block_of_add, block_of_add]; exact hB)).trans (hc k x hx j v hv)⟩⟩
theorem blk_own_ne {H : Type} {R : Value → Option (DataW H × List MemPlace)} {w : World} {t : TypeId} {b n r : Nat} {D : DataW H} {cs : Array Value} {t' : TypeId} (h : w.ownsMap Tryz.prog t R b n D) (hr : w.heap[r]? = some (.cells cs t' (0, 0))) : b ≠ r := by
 rintro rfl
 obtain ⟨es, clock, h1, _⟩ := h
 rw [hr] at h1
 cases h1
theorem MapAt.set {α : Type} [Kd α] {v : Value} {D : DataW Unit} {w : World} {r : Nat} {cs : Array Value} {t : TypeId} (h : MapAt α v D w) (hr : w.heap[r]? = some (.cells cs t (0, 0))) (i : Nat) (u : Value) : MapAt α v D (w.setCell ⟨r, i, none⟩ u) := by
 rcases h with h | ⟨b, h1, h2⟩
 ·exact .inl h
 ·exact .inr ⟨b, h1, own_keep h2 (Below.heap_setCell _ _ _ _ (blk_own_ne h2 hr))⟩
theorem CalAt.set {c : Nat} {D : DataW Unit} {w : World} {r : Nat} {cs : Array Value} {t : TypeId} (h : CalAt c D w) (hne : c ≠ r) (hr : w.heap[r]? = some (.cells cs t (0, 0))) (i : Nat) (u : Value) : CalAt c D (w.setCell ⟨r, i, none⟩ u) := by
 obtain ⟨b, n, h1, h2⟩ := h
 refine ⟨b, n, (Below.heap_setCell _ _ _ _ hne).trans h1, ?_⟩
 have hb := blk_own_ne h2 hr
 obtain ⟨es, clock, h3, h4⟩ := h2
 exact ⟨es, clock, (Below.heap_setCell _ _ _ _ hb).trans h3, h4⟩
theorem RefAt.put1 {r b : Nat} {st : Rf} {w : World} {D : DataW Unit} (h : RefAt r st w) (hm : MapAt Party (.map (some b)) D w) : RefAt r ⟨D, st.a, st.s, st.h⟩ (w.setCell ⟨r, 1, none⟩ (.map (some b))) := by
 obtain ⟨c, vp, va, vs, h1, hp, ha, h2, h3, h4, h5, h6⟩ := h
 exact ⟨c, _, va, vs, Blk.set_ (show Blk w r 82 _ from h1) 1 _, ⟨b, rfl⟩, ha, hm.set h1 _ _, h3.set h1 _ _, h4.set h1 _ _, h5.set h6 h1 _ _, h6⟩
theorem RefAt.put2 {r b : Nat} {st : Rf} {w : World} {D : DataW Unit} (h : RefAt r st w) (hm : MapAt Account (.map (some b)) D w) : RefAt r ⟨st.p, D, st.s, st.h⟩ (w.setCell ⟨r, 2, none⟩ (.map (some b))) := by
 obtain ⟨c, vp, va, vs, h1, hp, ha, h2, h3, h4, h5, h6⟩ := h
 exact ⟨c, vp, _, vs, Blk.set_ (show Blk w r 82 _ from h1) 2 _, hp, ⟨b, rfl⟩, h2.set h1 _ _, hm.set h1 _ _, h4.set h1 _ _, h5.set h6 h1 _ _, h6⟩
theorem RefAt.put3 {r : Nat} {v : Value} {st : Rf} {w : World} {D : DataW Unit} (h : RefAt r st w) (hm : MapAt Asset v D w) : RefAt r ⟨st.p, st.a, D, st.h⟩ (w.setCell ⟨r, 3, none⟩ v) := by
 obtain ⟨c, vp, va, vs, h1, hp, ha, h2, h3, h4, h5, h6⟩ := h
 exact ⟨c, vp, va, _, Blk.set_ (show Blk w r 82 _ from h1) 3 _, hp, ha, h2.set h1 _ _, h3.set h1 _ _, hm.set h1 _ _, h5.set h6 h1 _ _, h6⟩
theorem RefAt.frozen {r : Nat} {st : Rf} {w : World} (h : RefAt r st w) (i : Nat) : w.frozen? ⟨r, i, none⟩ = false := by
 obtain ⟨c, vp, va, vs, h1, _⟩ := h
 exact Lib.frozen_of_heap h1 i
/-- The assets' map, perhaps nil. -/
theorem RefAt.mapS {r : Nat} {st : Rf} {w : World} (h : RefAt r st w) : ∃ v, w.cell? ⟨r, 3, none⟩ = some v ∧ MapAt Asset v st.s w := by
 obtain ⟨c, vp, va, vs, h1, hp, ha, h2, h3, h4, h5, h6⟩ := h
 exact ⟨vs, by rw [Lib.cell_of_heap h1]; rfl, h4⟩
theorem from_some {v' : Value} {b n : Nat} (h : v' = .map (some b) ∨ ∃ b', n ≤ b' ∧ v' = .map (some b')) : ∃ b', v' = .map (some b') := h.elim (fun h => ⟨b, h⟩) (fun ⟨b', _, h⟩ => ⟨b', h⟩)
theorem Lows.put1 {B r : Nat} {w w1 : World} {v v' : Value} (h : Lows B r w) (hb : Below w.heap.size w w1) (hc : w.cell? ⟨r, 1, none⟩ = some v) (hB : B ≤ w.heap.size) (hv : v' = v ∨ ∃ b', w.heap.size ≤ b' ∧ v' = .map (some b')) : Lows B r (w1.setCell ⟨r, 1, none⟩ v') := by
 have hlt := h.lt
 obtain ⟨c, vp, va, vs, h1, hp, ha, hs⟩ := h
 have e : vp = v := by
  rw [Lib.cell_of_heap h1] at hc
  injection hc
 have hk := Blk.set_ (show Blk w1 r 82 _ from (hb.block r hlt).trans h1) 1 v'
 have hv2 : low B v' := by
  rcases hv with h | ⟨b', h2, h⟩
  ·rw [h, ← e]; exact hp
  ·intro b hb2
   rw [h] at hb2
   injection hb2 with hb2
   injection hb2 with hb2
   omega
 exact ⟨c, v', va, vs, hk, hv2, ha, hs⟩
theorem Lows.put2 {B r : Nat} {w w1 : World} {v v' : Value} (h : Lows B r w) (hb : Below w.heap.size w w1) (hc : w.cell? ⟨r, 2, none⟩ = some v) (hB : B ≤ w.heap.size) (hv : v' = v ∨ ∃ b', w.heap.size ≤ b' ∧ v' = .map (some b')) : Lows B r (w1.setCell ⟨r, 2, none⟩ v') := by
 have hlt := h.lt
 obtain ⟨c, vp, va, vs, h1, hp, ha, hs⟩ := h
 have e : va = v := by
  rw [Lib.cell_of_heap h1] at hc
  injection hc
 have hk := Blk.set_ (show Blk w1 r 82 _ from (hb.block r hlt).trans h1) 2 v'
 have hv2 : low B v' := by
  rcases hv with h | ⟨b', h2, h⟩
  ·rw [h, ← e]; exact ha
  ·intro b hb2
   rw [h] at hb2
   injection hb2 with hb2
   injection hb2 with hb2
   omega
 exact ⟨c, vp, v', vs, hk, hp, hv2, hs⟩
theorem Lows.put3 {B r : Nat} {w w1 : World} {v v' : Value} (h : Lows B r w) (hb : Below w.heap.size w w1) (hc : w.cell? ⟨r, 3, none⟩ = some v) (hB : B ≤ w.heap.size) (hv : v' = v ∨ ∃ b', w.heap.size ≤ b' ∧ v' = .map (some b')) : Lows B r (w1.setCell ⟨r, 3, none⟩ v') := by
 have hlt := h.lt
 obtain ⟨c, vp, va, vs, h1, hp, ha, hs⟩ := h
 have e : vs = v := by
  rw [Lib.cell_of_heap h1] at hc
  injection hc
 have hk := Blk.set_ (show Blk w1 r 82 _ from (hb.block r hlt).trans h1) 3 v'
 have hv2 : low B v' := by
  rcases hv with h | ⟨b', h2, h⟩
  ·rw [h, ← e]; exact hs.1
  ·intro b hb2
   rw [h] at hb2
   injection hb2 with hb2
   injection hb2 with hb2
   omega
 exact ⟨c, vp, va, v', hk, hp, ha, hv2, hs.2⟩
/-- Only the block r moves, and what its maps are based on. -/
structure MvL (r : Nat) (w w' : World) : Prop where
 mv : Mv [r] [r] w w'
 lows : ∀ B, B ≤ w.heap.size → Lows B r w → Lows B r w'
theorem mv_new {r : Nat} {w w' : World} (h : Below w.heap.size w w') : Mv [r] [r] w w' := Mv.of_new h (fun _ hk => .inl hk)
/-- What data are behind more parties, accounts, assets; and the error. -/
def addP (st : Rf) (l : List Party) : Rf := ⟨outR validS 20 (fun _ => 0) limP st.p l, st.a, st.s, st.h⟩
def errP (st : Rf) (l : List Party) : Int := (goR validS 20 (fun _ => 0) limP st.p l).1
def noParty (st : Rf) (x : Account) : Int := if hasS st.p x.party = true then 0 else 7
def addC (st : Rf) (l : List Account) : Rf := ⟨st.p, outR validS 20 (noParty st) (fun _ => 0) st.a l, st.s, st.h⟩
def errC (st : Rf) (l : List Account) : Int := (goR validS 20 (noParty st) (fun _ => 0) st.a l).1
def addS' (st : Rf) (l : List Asset) : Rf := ⟨st.p, st.a, outR validS 12 (fun _ => 0) canI st.s l, st.h⟩
def errS (st : Rf) (l : List Asset) : Int := (goR validS 12 (fun _ => 0) canI st.s l).1
theorem outR_good {α : Type} [Kd α] {valid : ByteArray → Bool} {most : Nat} {ahead behind : α → Int} {had : DataW Unit} (h : GoodR α had ∧ Maps.size had ≤ most) (l : List α) : GoodR α (outR valid most ahead behind had l) ∧ Maps.size (outR valid most ahead behind had l) ≤ most := by
 unfold outR
 split
 ·exact goR_good h l
 ·exact h
theorem addP_ok {st : Rf} (h : st.Ok) (l : List Party) : (addP st l).Ok := ⟨(outR_good ⟨h.gp, h.np⟩ l).1, h.ga, h.gs, (outR_good ⟨h.gp, h.np⟩ l).2, h.na, h.ns⟩
theorem addC_ok {st : Rf} (h : st.Ok) (l : List Account) : (addC st l).Ok := ⟨h.gp, (outR_good ⟨h.ga, h.na⟩ l).1, h.gs, h.np, (outR_good ⟨h.ga, h.na⟩ l).2, h.ns⟩
theorem addS_ok {st : Rf} (h : st.Ok) (l : List Asset) : (addS' st l).Ok := ⟨h.gp, h.ga, (outR_good ⟨h.gs, h.ns⟩ l).1, h.np, h.na, (outR_good ⟨h.gs, h.ns⟩ l).2⟩

set_option maxHeartbeats 1000000 in
theorem addParties_any (r : Nat) (st : Rf) (hok : st.Ok) (l : List Party) (A : Option Addr) (c : Nat) (w : World) (h : RefAt r st w) (hr : RowsAt w w.heap.size A 2 l) (hl : l.length ≤ 9223372036854775807) :
  Calls Tryz.prog 11 #[.pointer (some ⟨r, 0, none⟩), .slice A l.length c] w fun e w' => e = .returned (.int .i64 (errP st l)) ∧ RefAt r (addP st l) w' ∧ MvL r w w' := by
 obtain ⟨b, hcell, hown, _⟩ := h.ownP
 have HA := addedP_any (.map (some b)) st.p l A c w (.inr ⟨b, rfl, hown⟩) hok.gp hok.np hr hl
 unfold addP errP
 obtain ⟨n, hn⟩ : ∃ n, l.length = n := ⟨_, rfl⟩
 rw [hn] at HA ⊢
 obtain ⟨E, hE⟩ : ∃ E, (goR validS 20 (fun _ => 0) limP st.p l).1 = E := ⟨_, rfl⟩
 obtain ⟨O, hO⟩ : ∃ O, outR validS 20 (fun _ => 0) limP st.p l = O := ⟨_, rfl⟩
 rw [hE, hO] at HA
 rw [hE, hO]
 have HK := Lib.hid h
 have HAA := Lib.hid HA
 clear hn hE hO hr HA hown hok h
 go_enter Tryz.func11, Tryz.ntmps11
 go_wp2_with fail
 refine HAA.out.mono ?_
 rintro e w1 ⟨v', rfl, hm, hb, hs⟩
 have hs0 := hs
 obtain ⟨b', rfl⟩ := from_some hs
 have hk1 := HK.out.below hb
 have f1 := hk1.frozen 1
 have hput := hk1.put1 hm
 have HP := Lib.hid hput
 have HM := Lib.hid (MvL.mk ((mv_new (r := r) hb).set_ (g := r) (by simp) 1 (.map (some b'))) (fun B hB h => h.put1 hb hcell hB hs0))
 have c1 : ∃ u, w1.cell? ⟨r, 1, none⟩ = some u := by
  obtain ⟨b2, h2, _⟩ := hk1.ownP
  exact ⟨_, h2⟩
 obtain ⟨u, c1⟩ := c1
 clear hb hm hs hs0 hk1 hput HAA HK hcell
 go_wp2
 go_ret
 exact ⟨rfl, HP.out, HM.out⟩

set_option maxHeartbeats 1000000 in
theorem addAssets_any (r : Nat) (st : Rf) (hok : st.Ok) (l : List Asset) (A : Option Addr) (c : Nat) (w : World) (h : RefAt r st w) (hr : RowsAt w w.heap.size A 8 l) (hl : l.length ≤ 9223372036854775807) :
  Calls Tryz.prog 19 #[.pointer (some ⟨r, 0, none⟩), .slice A l.length c] w fun e w' => e = .returned (.int .i64 (errS st l)) ∧ RefAt r (addS' st l) w' ∧ MvL r w w' := by
 obtain ⟨vs, hcell, hmap⟩ := h.mapS
 have HA := addedS_any vs st.s l A c w hmap hok.gs hok.ns hr hl
 unfold addS' errS
 obtain ⟨n, hn⟩ : ∃ n, l.length = n := ⟨_, rfl⟩
 rw [hn] at HA ⊢
 obtain ⟨E, hE⟩ : ∃ E, (goR validS 12 (fun _ => 0) canI st.s l).1 = E := ⟨_, rfl⟩
 obtain ⟨O, hO⟩ : ∃ O, outR validS 12 (fun _ => 0) canI st.s l = O := ⟨_, rfl⟩
 rw [hE, hO] at HA
 rw [hE, hO]
 have HK := Lib.hid h
 have HAA := Lib.hid HA
 clear hn hE hO hr HA hok h
 have hvs : ∃ mb, vs = .map mb := hmap.elim (fun h => ⟨_, h.1⟩) (fun ⟨b, h, _⟩ => ⟨_, h⟩)
 obtain ⟨mb, rfl⟩ := hvs
 clear hmap
 go_enter Tryz.func19, Tryz.ntmps19
 go_wp2_with fail
 refine HAA.out.mono ?_
 rintro e w1 ⟨v', rfl, hm, hb, hs⟩
 have hk1 := HK.out.below hb
 have f1 := hk1.frozen 3
 have hput := hk1.put3 hm
 have HP := Lib.hid hput
 have HM := Lib.hid (MvL.mk ((mv_new (r := r) hb).set_ (g := r) (by simp) 3 v') (fun B hB h => h.put3 hb hcell hB hs))
 obtain ⟨u, c1, _⟩ := hk1.mapS
 have hvs : ∃ mb, v' = .map mb := hm.elim (fun h => ⟨_, h.1⟩) (fun ⟨b, h, _⟩ => ⟨_, h⟩)
 obtain ⟨mb', rfl⟩ := hvs
 clear hb hm hs hk1 hput HAA HK hcell
 go_wp2
 go_ret
 exact ⟨rfl, HP.out, HM.out⟩

theorem makes : ∀ (fn : Fn) (first cap : Array Value) (w : World), (Instr.makeFunc fn first cap).run Tryz.prog w = .ok (.func fn first cap) w := fun _ _ _ _ => rfl
set_option maxHeartbeats 4000000 in
set_option maxRecDepth 10000 in
theorem aheadC_any (q r : Nat) (st : Rf) (hok : st.Ok) (x : Account) (hx : x.party.size ≤ 9223372036854775807) (w : World) (h : RefAt r st w) (hq : w.cell? ⟨q, 0, none⟩ = some (.pointer (some ⟨r, 0, none⟩))) (hqlt : q < w.heap.size) :
  Calls Tryz.prog 60 #[Kd.val x, .pointer (some ⟨q, 0, none⟩)] w fun e w' => e = .returned (.int .i64 (noParty st x)) ∧ Below w.heap.size w w' := by
 have hrl := h.lt
 obtain ⟨b, hcell, hown, _⟩ := h.ownP
 unfold noParty
 obtain ⟨name, party⟩ := x
 have hlkA := run_look_ok (α := Party) Tryz.underlying78 (zeroP _) (own_keep (w' := (w.alloc (.cells #[.string name, .string party] 88)).drew) hown (Below.heap_alloc w (.cells #[.string name, .string party] 88) b hown.lt)) hok.gp (s := party) hx
 have hlkB := run_look_ok (α := Party) Tryz.underlying78 (zeroP _) (own_keep (w' := ((w.alloc (.cells #[.string name, .string party] 88)).alloc (.cells #[.string ⟨#[]⟩, .int .i64 0] 84)).drew) hown ((Below.heap_alloc (w.alloc (.cells #[.string name, .string party] 88)) (.cells #[.string ⟨#[]⟩, .int .i64 0] 84) b (by have := hown.lt; simp; omega)).trans (Below.heap_alloc w (.cells #[.string name, .string party] 88) b hown.lt))) hok.gp (s := party) hx
 show Calls Tryz.prog 60 #[.agg #[.string name, .string party], .pointer (some ⟨q, 0, none⟩)] w _
 obtain ⟨y, hy⟩ : ∃ y, recAt Party st.p party = y := ⟨_, rfl⟩
 rw [hy] at hlkA hlkB
 clear hy hown h hok
 obtain ⟨W1, hW1⟩ : ∃ W1, w.alloc (.cells #[.string name, .string party] 88) = W1 := ⟨_, rfl⟩
 have hz : w.heap.size < W1.heap.size := by rw [← hW1]; simp
 have e1 : W1.cell? ⟨q, 0, none⟩ = some (.pointer (some ⟨r, 0, none⟩)) := by rw [← hW1]; exact (World.cell?_alloc_lt _ _ ⟨q, 0, none⟩ hqlt).trans hq
 have e2 : W1.cell? ⟨r, 1, none⟩ = some (.map (some b)) := by rw [← hW1]; exact (World.cell?_alloc_lt _ _ ⟨r, 1, none⟩ hrl).trans hcell
 have e3 : W1.cell? ⟨w.heap.size, 1, none⟩ = some (.string party) := by rw [← hW1, Lib.cell_of_heap (heap_alloc_new w _)]; rfl
 have HB := Lib.hid ((Below.refl w.heap.size w).alloc (Nat.le_refl _) (.cells #[.string name, .string party] 88))
 rw [hW1] at HB hlkA hlkB
 have HW1 := Lib.hid hW1
 have HZ := Lib.hid hz
 clear hW1 hcell hq
 cases hh : hasS st.p party
 ·rw [if_neg (by simp)]
  rw [hh] at hlkA hlkB
  have hlk1 : (Instr.lookup 78 (.map (some b)) (.string party) true).run Tryz.prog W1.drew = .ok (.tuple #[.agg #[.string y.name, .int .i64 y.limit], .bool false]) W1.drew := hlkA
  have hlk2 : (Instr.lookup 78 (.map (some b)) (.string party) true).run Tryz.prog (W1.alloc (.cells #[.string ⟨#[]⟩, .int .i64 0] 84)).drew = .ok (.tuple #[.agg #[.string y.name, .int .i64 y.limit], .bool false]) (W1.alloc (.cells #[.string ⟨#[]⟩, .int .i64 0] 84)).drew := hlkB
  clear hlkA hlkB hh
  go_enter Tryz.func60, Tryz.ntmps60
  go_wp2
  rw [HW1.out]
  clear HW1
  go_region_held3 (fun V => V.cell? ⟨q, 0, none⟩ = some (.pointer (some ⟨r, 0, none⟩)) ∧ V.cell? ⟨r, 1, none⟩ = some (.map (some b)) ∧ V.cell? ⟨w.heap.size, 1, none⟩ = some (.string party))
   (first | exact ⟨e1, e2, e3⟩ | exact ⟨(World.cell?_alloc_lt _ _ ⟨q, 0, none⟩ (Nat.lt_trans hqlt hz)).trans e1, (World.cell?_alloc_lt _ _ ⟨r, 1, none⟩ (Nat.lt_trans hrl hz)).trans e2, (World.cell?_alloc_lt _ _ ⟨w.heap.size, 1, none⟩ hz).trans e3⟩) (fail)
  all_goals
   go_wp2
   go_ret
   exact ⟨rfl, drewN_below (HB.out.alloc (Nat.le_of_lt HZ.out) _) _⟩
 ·rw [if_pos rfl]
  rw [hh] at hlkA hlkB
  have hlk1 : (Instr.lookup 78 (.map (some b)) (.string party) true).run Tryz.prog W1.drew = .ok (.tuple #[.agg #[.string y.name, .int .i64 y.limit], .bool true]) W1.drew := hlkA
  have hlk2 : (Instr.lookup 78 (.map (some b)) (.string party) true).run Tryz.prog (W1.alloc (.cells #[.string ⟨#[]⟩, .int .i64 0] 84)).drew = .ok (.tuple #[.agg #[.string y.name, .int .i64 y.limit], .bool true]) (W1.alloc (.cells #[.string ⟨#[]⟩, .int .i64 0] 84)).drew := hlkB
  clear hlkA hlkB hh
  go_enter Tryz.func60, Tryz.ntmps60
  go_wp2
  rw [HW1.out]
  clear HW1
  go_region_held3 (fun V => V.cell? ⟨q, 0, none⟩ = some (.pointer (some ⟨r, 0, none⟩)) ∧ V.cell? ⟨r, 1, none⟩ = some (.map (some b)) ∧ V.cell? ⟨w.heap.size, 1, none⟩ = some (.string party))
   (first | exact ⟨e1, e2, e3⟩ | exact ⟨(World.cell?_alloc_lt _ _ ⟨q, 0, none⟩ (Nat.lt_trans hqlt hz)).trans e1, (World.cell?_alloc_lt _ _ ⟨r, 1, none⟩ (Nat.lt_trans hrl hz)).trans e2, (World.cell?_alloc_lt _ _ ⟨w.heap.size, 1, none⟩ hz).trans e3⟩) (fail)
  all_goals
   go_wp2
   go_ret
   exact ⟨rfl, drewN_below (HB.out.alloc (Nat.le_of_lt HZ.out) _) _⟩

set_option maxHeartbeats 1000000 in
theorem addAccounts_any (r : Nat) (st : Rf) (hok : st.Ok) (l : List Account) (A : Option Addr) (c : Nat) (w : World) (h : RefAt r st w) (hr : RowsAt w w.heap.size A 2 l) (hl : l.length ≤ 9223372036854775807) (hx : ∀ x ∈ l, x.party.size ≤ 9223372036854775807) :
  Calls Tryz.prog 15 #[.pointer (some ⟨r, 0, none⟩), .slice A l.length c] w fun e w' => e = .returned (.int .i64 (errC st l)) ∧ RefAt r (addC st l) w' ∧ MvL r w w' := by
 obtain ⟨W1, hW1⟩ : ∃ W1, w.alloc (.cells #[.pointer (some ⟨r, 0, none⟩)] 40) = W1 := ⟨_, rfl⟩
 have hb1 : Below w.heap.size w W1 := by rw [← hW1]; exact (Below.refl _ _).alloc (Nat.le_refl _) _
 have hz : w.heap.size < W1.heap.size := by rw [← hW1]; simp
 have hq : W1.cell? ⟨w.heap.size, 0, none⟩ = some (.pointer (some ⟨r, 0, none⟩)) := by rw [← hW1, Lib.cell_of_heap (heap_alloc_new w _)]; rfl
 have h1 := h.below hb1
 obtain ⟨b, hcell, hown, _⟩ := h1.ownC
 have HA := addedC_any (.map (some b)) st.a l A c W1 (.inr ⟨b, rfl, hown⟩) hok.ga hok.na (hr.below hb1) hl (noParty st) (.pointer (some ⟨w.heap.size, 0, none⟩))
  (fun x w2 hxl hb2 => aheadC_any w.heap.size r st hok x (hx x hxl) w2 (h1.below hb2) ((hb2.cell (p := ⟨w.heap.size, 0, none⟩) hz).trans hq) (Nat.lt_of_lt_of_le hz hb2.size))
 unfold addC errC
 obtain ⟨n, hn⟩ : ∃ n, l.length = n := ⟨_, rfl⟩
 rw [hn] at HA ⊢
 obtain ⟨E, hE⟩ : ∃ E, (goR validS 20 (noParty st) (fun _ => 0) st.a l).1 = E := ⟨_, rfl⟩
 obtain ⟨O, hO⟩ : ∃ O, outR validS 20 (noParty st) (fun _ => 0) st.a l = O := ⟨_, rfl⟩
 rw [hE, hO] at HA
 rw [hE, hO]
 have HK := Lib.hid h1
 have HAA := Lib.hid HA
 have hrl := h.lt
 have hcell0 : w.cell? ⟨r, 2, none⟩ = some (.map (some b)) := by rw [← hcell, ← hW1]; exact (World.cell?_alloc_lt _ _ ⟨r, 2, none⟩ hrl).symm
 have HW1 := Lib.hid hW1
 have HB1 := Lib.hid hb1
 clear hn hE hO hr HA hown hok h h1 hW1 hb1 hx
 have hmf := makes
 go_enter Tryz.func15, Tryz.ntmps15
 go_wp2_with fail
 rw [HW1.out]
 refine HAA.out.mono ?_
 rintro e w1 ⟨v', rfl, hm, hb, hs⟩
 have hs0 := hs
 obtain ⟨b', rfl⟩ := from_some hs
 have hk1 := HK.out.below hb
 have f1 := hk1.frozen 2
 have hput := hk1.put2 hm
 have HP := Lib.hid hput
 have HM := Lib.hid (MvL.mk ((mv_new (r := r) (HB1.out.trans (hb.mono HB1.out.size))).set_ (g := r) (by simp) 2 (.map (some b'))) (fun B hB h => (h.below HB1.out).put2 hb hcell (Nat.le_trans hB HB1.out.size) hs0))
 have c1 : ∃ u, w1.cell? ⟨r, 2, none⟩ = some u := by
  obtain ⟨b2, h2, _⟩ := hk1.ownC
  exact ⟨_, h2⟩
 obtain ⟨u, c1⟩ := c1
 have hq1 := (hb.cell (p := ⟨w.heap.size, 0, none⟩) hz).trans hq
 clear hb hm hs hs0 hk1 hput HAA HK hcell HW1 hq
 go_wp2
 go_ret
 exact ⟨rfl, HP.out, HM.out⟩
end Go.Proofs.YtnpkplegeddhcaaGreat
