/-
  Package ref as a contract: what stands at a name: Asset.
  Conditions: the caller's memory stays.
-/
import Derived.Test.YtkcecijepbceiaaRef4
namespace Go.Proofs.Ytkcecijepbceiaa
open Go.RowKit Go.Maps Go.Shelf

/-- The map that stands in a cell. -/
theorem RefAt.ownS {r : Nat} {st : Rf} {w : World} (h : RefAt r st w) (hne : Maps.size st.s ≠ 0) : ∃ b, w.cell? ⟨r, 3, none⟩ = some (.map (some b)) ∧ w.ownsMap Try.prog 9 (Kd.E Asset) b (Maps.size st.s) st.s ∧ b ≠ r := by
  obtain ⟨c, vp, va, vs, hb, ⟨b1, hp⟩, ⟨b2, ha⟩, m1, m2, m3, hc⟩ := h
  rcases m3 with ⟨h1, h2⟩ | ⟨b, h1, h2⟩
  · exact absurd (by rw [h2]; rfl) hne
  · refine ⟨b, by rw [Lib.cell_of_heap hb, ← h1]; rfl, h2, ?_⟩
    rintro rfl
    obtain ⟨es, clock, h3, _⟩ := h2
    rw [hb] at h3
    cases h3
set_option maxHeartbeats 4000000 in
set_option maxRecDepth 10000 in
theorem getS_any (r : Nat) (st : Rf) (hg : GoodR Asset st.s) (hne : Maps.size st.s ≠ 0) (s : ByteArray) (hs : s.size ≤ 9223372036854775807) (w : World) (h : RefAt r st w) :
    Calls Try.prog 109 #[.pointer (some ⟨r, 0, none⟩), .string s] w fun e w' => e = .returned (.tuple #[Kd.val (recAt Asset st.s s), .bool (hasS st.s s)]) ∧ Below w.heap.size w w' := by
  have hrl := h.lt
  obtain ⟨b, hcell, hown, _⟩ := h.ownS hne
  have hlk0 := run_look_ok (α := Asset) Try.underlying73 (zeroS _) (own_keep hown (Below.heap_alloc w (.cells #[.string ⟨#[]⟩, .bool false, .bool false, .int .i64 0, .int .i64 0, .int .i64 0, .int .i64 0, .int .i64 0] 138) b hown.lt)) hg hs
  obtain ⟨y, hy⟩ : ∃ y, recAt Asset st.s s = y := ⟨_, rfl⟩
  obtain ⟨x, hx⟩ : ∃ x, hasS st.s s = x := ⟨_, rfl⟩
  rw [hy, hx] at hlk0
  rw [hy, hx]
  have hlk : (Instr.lookup 73 (.map (some b)) (.string s) true).run Try.prog (w.alloc (.cells #[.string ⟨#[]⟩, .bool false, .bool false, .int .i64 0, .int .i64 0, .int .i64 0, .int .i64 0, .int .i64 0] 138)) = .ok (.tuple #[.agg #[.string y.name, .bool y.cash, .bool y.pledge, .int .i64 y.unit, .int .i64 y.least, .int .i64 y.price, .int .i64 y.cut, .int .i64 y.close], .bool x]) (w.alloc (.cells #[.string ⟨#[]⟩, .bool false, .bool false, .int .i64 0, .int .i64 0, .int .i64 0, .int .i64 0, .int .i64 0] 138)) := hlk0
  have hpv : Kd.val y = .agg #[.string y.name, .bool y.cash, .bool y.pledge, .int .i64 y.unit, .int .i64 y.least, .int .i64 y.price, .int .i64 y.cut, .int .i64 y.close] := rfl
  rw [hpv]
  clear hlk0 hy hx hown h hpv
  go_enter Try.func109, Try.ntmps109
  go_wp2
  have hk : ((w.alloc (.cells #[.string y.name, .bool y.cash, .bool y.pledge, .int .i64 y.unit, .int .i64 y.least, .int .i64 y.price, .int .i64 y.cut, .int .i64 y.close] 138)).alloc (.cells #[.string y.name, .bool y.cash, .bool y.pledge, .int .i64 y.unit, .int .i64 y.least, .int .i64 y.price, .int .i64 y.cut, .int .i64 y.close] 138)).heap[w.heap.size]? = some (.cells #[.string y.name, .bool y.cash, .bool y.pledge, .int .i64 y.unit, .int .i64 y.least, .int .i64 y.price, .int .i64 y.cut, .int .i64 y.close] 138 (0, 0)) := (Below.heap_alloc _ _ _ (by simp)).trans (heap_alloc_new w _)
  refine bodyPost_ret (results_cell_tmp_row rfl _ _ w.heap.size _ _ _ _ rfl hk Try.underlying138 rfl infoS) rfl ?_
  exact ⟨rfl, ((Below.refl w.heap.size w).alloc (Nat.le_refl _) _).alloc (by simp) _⟩
end Go.Proofs.Ytkcecijepbceiaa
