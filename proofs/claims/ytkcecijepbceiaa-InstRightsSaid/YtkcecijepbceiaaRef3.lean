/-
  Package ref as contracts: data that the call has made; New, Party, Account, Asset.
  Conditions: the caller's memory stays.
-/
import Derived.Test.YtkcecijepbceiaaRef2P
import Derived.Test.YtkcecijepbceiaaRef2C
import Derived.Test.YtkcecijepbceiaaRef2S
namespace Go.Proofs.Ytkcecijepbceiaa
open Go.RowKit Go.Maps Go.Shelf

/-- What stands fast, in plain words. -/
structure Rf where
  p : DataW Unit
  a : DataW Unit
  s : DataW Unit
  h : DataW Unit
structure Rf.Ok (st : Rf) : Prop where
  gp : GoodR Party st.p
  ga : GoodR Account st.a
  gs : GoodR Asset st.s
  np : Maps.size st.p ≤ 20
  na : Maps.size st.a ≤ 20
  ns : Maps.size st.s ≤ 12
/-- Data in block r with a calendar in block c. -/
def RefAt (r : Nat) (st : Rf) (w : World) : Prop :=
  ∃ c vp va vs, w.heap[r]? = some (.cells #[.pointer (some ⟨c, 0, none⟩), vp, va, vs] 75 (0, 0)) ∧ (∃ b, vp = .map (some b)) ∧ (∃ b, va = .map (some b)) ∧ MapAt Party vp st.p w ∧ MapAt Account va st.a w ∧ MapAt Asset vs st.s w ∧ CalAt c st.h w ∧ c ≠ r
/-- No map of the data lies in a block under B. -/
def low (B : Nat) (v : Value) : Prop := ∀ b, v = .map (some b) → B ≤ b
def lowp (B : Nat) (v : Value) : Prop := ∀ b, v = .pointer (some ⟨b, 0, none⟩) → B ≤ b
def Lows (B r : Nat) (w : World) : Prop := ∃ c vp va vs, w.heap[r]? = some (.cells #[c, vp, va, vs] 75 (0, 0)) ∧ low B vp ∧ low B va ∧ low B vs ∧ lowp B c
theorem Lows.lt {B r : Nat} {w : World} (h : Lows B r w) : r < w.heap.size := by obtain ⟨_, _, _, _, h, _⟩ := h; exact Blk.lt (t := 75) h
theorem Lows.below {B r : Nat} {w w' : World} (h : Lows B r w) (hb : Below w.heap.size w w') : Lows B r w' := by
  have hlt := h.lt
  obtain ⟨c, vp, va, vs, h1, h2⟩ := h
  exact ⟨c, vp, va, vs, (hb.block r hlt).trans h1, h2⟩
theorem low_some {B b : Nat} (h : B ≤ b) : low B (.map (some b)) := by
  intro b' e
  injection e with e
  injection e with e
  omega
theorem low_none {B : Nat} : low B (.map none) := by
  intro b' e
  injection e with e
  cases e
def bankS : ByteArray := ⟨#[66, 65, 78, 75]⟩
def rf0 : Rf := ⟨putR (.map []) bankS (⟨bankS, 0⟩ : Party), putR (.map []) bankS (⟨bankS, bankS⟩ : Account), .map [], setD []⟩
theorem rf0_ok : rf0.Ok := ⟨goodR_none.put _ _, goodR_none.put _ _, goodR_none, by decide, by decide, by decide⟩
section
variable {r : Nat} {st : Rf} {w w' : World}
theorem RefAt.lt (h : RefAt r st w) : r < w.heap.size := by obtain ⟨_, _, _, _, h, _⟩ := h; exact Blk.lt (t := 75) h
theorem RefAt.below (h : RefAt r st w) (hb : Below w.heap.size w w') : RefAt r st w' := by
  have hlt := h.lt
  obtain ⟨c, vp, va, vs, h1, hp, ha, h2, h3, h4, h5, h6⟩ := h
  exact ⟨c, vp, va, vs, (hb.block r hlt).trans h1, hp, ha, h2.below hb, h3.below hb, h4.below hb, h5.below hb, h6⟩
theorem RefAt.drewN (h : RefAt r st w) (n : Nat) : RefAt r st (w.drewN n) := h
end
set_option maxHeartbeats 4000000 in
set_option maxRecDepth 10000 in
theorem new_nil (w : World) : Calls Try.prog 52 #[.pointer none] w fun e w' => ∃ r, e = .returned (.pointer (some ⟨r, 0, none⟩)) ∧ w.heap.size ≤ r ∧ RefAt r rf0 w' ∧ Below w.heap.size w w' ∧ Lows w.heap.size r w' := by
  have hmm := @run_makeMap Try.prog
  have he : errNew [] = 0 := by kernel_rfl
  have HN := new_any [] none 0 w Reads.none_ (by simp) (by simp)
  rw [he, if_pos rfl] at HN
  clear he
  go_enter Try.func52, Try.ntmps52
  go_wp2_with fail
  refine HN.mono ?_
  rintro e w1 ⟨rfl, hok, hb1⟩
  have HC := Lib.hid (hok rfl)
  have HB1 := Lib.hid hb1
  clear hok HN
  obtain ⟨w2, hr2, ho2, hg2⟩ := (show (w1.alloc (.map #[] 0)).ownsMap Try.prog 9 (Kd.E Party) w1.heap.size 0 (.map []) from World.ownsMap_made _ _ _ _).update keyT Try.underlying71 (by unfold maxLen; omega) (key_str (s := bankS) (by decide)) (Kd.E_mk (⟨bankS, 0⟩ : Party))
  have hrun2 : (Instr.mapUpdate 71 (.map (some w1.heap.size)) (.string ⟨#[66, 65, 78, 75]⟩) (.agg #[.string ⟨#[66, 65, 78, 75]⟩, .int .i64 0])).run Try.prog (w1.alloc (.map #[] 0)) = .ok () w2 := hr2
  obtain ⟨w3, hr3, ho3, hg3⟩ := (show (w2.alloc (.map #[] 0)).ownsMap Try.prog 9 (Kd.E Account) w2.heap.size 0 (.map []) from World.ownsMap_made _ _ _ _).update keyT Try.underlying72 (by unfold maxLen; omega) (key_str (s := bankS) (by decide)) (Kd.E_mk (⟨bankS, bankS⟩ : Account))
  have hrun3 : (Instr.mapUpdate 72 (.map (some w2.heap.size)) (.string ⟨#[66, 65, 78, 75]⟩) (.agg #[.string ⟨#[66, 65, 78, 75]⟩, .string ⟨#[66, 65, 78, 75]⟩])).run Try.prog (w2.alloc (.map #[] 0)) = .ok () w3 := hr3
  have hz1 := hb1.size
  have hz2 := hg2.size
  have hz3 := hg3.size
  simp only [World.size_alloc] at hz2 hz3
  have hlc := HC.out.lt
  have hb13 : Below w1.heap.size w1 w3 := (((Below.refl w1.heap.size w1).alloc (Nat.le_refl _) _).grown hg2 (by simp) (by intro j hj; injection hj with hj; omega)).trans (((Below.refl w1.heap.size w2).alloc (by omega) _).grown hg3 (by simp; omega) (by intro j hj; injection hj with hj; omega))
  have HB3 := Lib.hid hb13
  have HP2 := Lib.hid (own_tight ho2)
  have HA3 := Lib.hid (own_tight ho3)
  have HP3 := Lib.hid (own_keep HP2.out ((hg3.block w1.heap.size (by simp; omega) (fun e => by injection e with e; omega)).trans (Below.heap_alloc w2 _ w1.heap.size (by omega))))
  clear hr2 hr3 ho2 ho3 hg2 hg3 hb1 hb13
  go_wp2
  go_ret
  have hlm : w2.heap.size < w3.heap.size := by omega
  refine ⟨w3.heap.size, rfl, by omega, ⟨w.heap.size, .map (some w1.heap.size), .map (some w2.heap.size), .map none, heap_alloc_new _ _, ⟨_, rfl⟩, ⟨_, rfl⟩, .inr ⟨_, rfl, ?_⟩, .inr ⟨_, rfl, ?_⟩, .inl ⟨rfl, rfl⟩, ?_, by omega⟩, ?_, ⟨_, _, _, _, heap_alloc_new _ _, low_some hz1, low_some (by omega), low_none, fun b e => by injection e with e; injection e with e; injection e with e _ _; omega⟩⟩
  · exact own_keep HP3.out (Below.heap_alloc _ _ _ (by omega))
  · exact own_keep HA3.out (Below.heap_alloc _ _ _ (by omega))
  · exact (HC.out.below HB3.out).below ((Below.refl _ _).alloc (Nat.le_refl _) _)
  · exact (HB1.out.trans (HB3.out.mono hz1)).alloc (by omega) _
end Go.Proofs.Ytkcecijepbceiaa
