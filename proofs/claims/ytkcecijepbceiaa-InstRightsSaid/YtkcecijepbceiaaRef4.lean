/-
  Package ref as contracts: what stands at a name: Party, Account, Asset.
  Conditions: the caller's memory stays.
-/
import Derived.Test.YtkcecijepbceiaaRef3
namespace Go.Proofs.Ytkcecijepbceiaa
open Go.RowKit Go.Maps Go.Shelf

theorem results_cell_tmp_row {P : Program} {fn : Func} {p u : Tmp} {ty : TypeId} (h : fn.results = #[.cell p ty, .tmp u]) (tmps : Array Value) (w : World) (g : Nat) (t : TypeId) (cs : Array Value) (fr : Nat × Nat) (d : TypeDesc)
    (hp : tmps.getD p undef = .pointer (some ⟨g, 0, none⟩)) (hg : w.heap[g]? = some (.cells cs t fr))
    (hu : P.underlying ty = some d) (hd : (match d with | .struct _ | .array _ _ => true | _ => false) = true) (hi : (P.info? ty).map (·.size) = some cs.size) :
    (results fn tmps).run P w = .ok (.tuple #[.agg cs, tmps.getD u undef]) w := by
  rw [results_cell_tmp h, hp]
  simp only [asAddr, Sem.run_pure, Result.andThen_ok, run_loadVar_row w g t ty cs fr d hg hu hd hi]
theorem infoP : (Try.prog.info? 130).map (·.size) = some 2 := by kernel_rfl
theorem infoC : (Try.prog.info? 134).map (·.size) = some 2 := by kernel_rfl
theorem infoS : (Try.prog.info? 138).map (·.size) = some 8 := by kernel_rfl

/-- The map that stands in a cell. -/
theorem RefAt.ownP {r : Nat} {st : Rf} {w : World} (h : RefAt r st w) : ∃ b, w.cell? ⟨r, 1, none⟩ = some (.map (some b)) ∧ w.ownsMap Try.prog 9 (Kd.E Party) b (Maps.size st.p) st.p ∧ b ≠ r := by
  obtain ⟨c, vp, va, vs, hb, ⟨b1, hp⟩, ⟨b2, ha⟩, m1, m2, m3, hc⟩ := h
  rcases m1 with ⟨h1, h2⟩ | ⟨b, h1, h2⟩
  · rw [hp] at h1; cases h1
  · refine ⟨b, by rw [Lib.cell_of_heap hb, ← h1]; rfl, h2, ?_⟩
    rintro rfl
    obtain ⟨es, clock, h3, _⟩ := h2
    rw [hb] at h3
    cases h3
set_option maxHeartbeats 4000000 in
set_option maxRecDepth 10000 in
theorem getP_any (r : Nat) (st : Rf) (hg : GoodR Party st.p) (s : ByteArray) (hs : s.size ≤ 9223372036854775807) (w : World) (h : RefAt r st w) :
    Calls Try.prog 107 #[.pointer (some ⟨r, 0, none⟩), .string s] w fun e w' => e = .returned (.tuple #[Kd.val (recAt Party st.p s), .bool (hasS st.p s)]) ∧ Below w.heap.size w w' := by
  have hrl := h.lt
  obtain ⟨b, hcell, hown, _⟩ := h.ownP
  have hlk0 := run_look_ok (α := Party) Try.underlying71 (zeroP _) (own_keep hown (Below.heap_alloc w (.cells #[.string ⟨#[]⟩, .int .i64 0] 130) b hown.lt)) hg hs
  obtain ⟨y, hy⟩ : ∃ y, recAt Party st.p s = y := ⟨_, rfl⟩
  obtain ⟨x, hx⟩ : ∃ x, hasS st.p s = x := ⟨_, rfl⟩
  rw [hy, hx] at hlk0
  rw [hy, hx]
  have hlk : (Instr.lookup 71 (.map (some b)) (.string s) true).run Try.prog (w.alloc (.cells #[.string ⟨#[]⟩, .int .i64 0] 130)) = .ok (.tuple #[.agg #[.string y.name, .int .i64 y.limit], .bool x]) (w.alloc (.cells #[.string ⟨#[]⟩, .int .i64 0] 130)) := hlk0
  have hpv : Kd.val y = .agg #[.string y.name, .int .i64 y.limit] := rfl
  rw [hpv]
  clear hlk0 hy hx hown h hpv
  go_enter Try.func107, Try.ntmps107
  go_wp2
  have hk : ((w.alloc (.cells #[.string y.name, .int .i64 y.limit] 130)).alloc (.cells #[.string y.name, .int .i64 y.limit] 130)).heap[w.heap.size]? = some (.cells #[.string y.name, .int .i64 y.limit] 130 (0, 0)) := (Below.heap_alloc _ _ _ (by simp)).trans (heap_alloc_new w _)
  refine bodyPost_ret (results_cell_tmp_row rfl _ _ w.heap.size _ _ _ _ rfl hk Try.underlying130 rfl infoP) rfl ?_
  exact ⟨rfl, ((Below.refl w.heap.size w).alloc (Nat.le_refl _) _).alloc (by simp) _⟩

/-- The map that stands in a cell. -/
theorem RefAt.ownC {r : Nat} {st : Rf} {w : World} (h : RefAt r st w) : ∃ b, w.cell? ⟨r, 2, none⟩ = some (.map (some b)) ∧ w.ownsMap Try.prog 9 (Kd.E Account) b (Maps.size st.a) st.a ∧ b ≠ r := by
  obtain ⟨c, vp, va, vs, hb, ⟨b1, hp⟩, ⟨b2, ha⟩, m1, m2, m3, hc⟩ := h
  rcases m2 with ⟨h1, h2⟩ | ⟨b, h1, h2⟩
  · rw [ha] at h1; cases h1
  · refine ⟨b, by rw [Lib.cell_of_heap hb, ← h1]; rfl, h2, ?_⟩
    rintro rfl
    obtain ⟨es, clock, h3, _⟩ := h2
    rw [hb] at h3
    cases h3
set_option maxHeartbeats 4000000 in
set_option maxRecDepth 10000 in
theorem getC_any (r : Nat) (st : Rf) (hg : GoodR Account st.a) (s : ByteArray) (hs : s.size ≤ 9223372036854775807) (w : World) (h : RefAt r st w) :
    Calls Try.prog 108 #[.pointer (some ⟨r, 0, none⟩), .string s] w fun e w' => e = .returned (.tuple #[Kd.val (recAt Account st.a s), .bool (hasS st.a s)]) ∧ Below w.heap.size w w' := by
  have hrl := h.lt
  obtain ⟨b, hcell, hown, _⟩ := h.ownC
  have hlk0 := run_look_ok (α := Account) Try.underlying72 (zeroC _) (own_keep hown (Below.heap_alloc w (.cells #[.string ⟨#[]⟩, .string ⟨#[]⟩] 134) b hown.lt)) hg hs
  obtain ⟨y, hy⟩ : ∃ y, recAt Account st.a s = y := ⟨_, rfl⟩
  obtain ⟨x, hx⟩ : ∃ x, hasS st.a s = x := ⟨_, rfl⟩
  rw [hy, hx] at hlk0
  rw [hy, hx]
  have hlk : (Instr.lookup 72 (.map (some b)) (.string s) true).run Try.prog (w.alloc (.cells #[.string ⟨#[]⟩, .string ⟨#[]⟩] 134)) = .ok (.tuple #[.agg #[.string y.name, .string y.party], .bool x]) (w.alloc (.cells #[.string ⟨#[]⟩, .string ⟨#[]⟩] 134)) := hlk0
  have hpv : Kd.val y = .agg #[.string y.name, .string y.party] := rfl
  rw [hpv]
  clear hlk0 hy hx hown h hpv
  go_enter Try.func108, Try.ntmps108
  go_wp2
  have hk : ((w.alloc (.cells #[.string y.name, .string y.party] 134)).alloc (.cells #[.string y.name, .string y.party] 134)).heap[w.heap.size]? = some (.cells #[.string y.name, .string y.party] 134 (0, 0)) := (Below.heap_alloc _ _ _ (by simp)).trans (heap_alloc_new w _)
  refine bodyPost_ret (results_cell_tmp_row rfl _ _ w.heap.size _ _ _ _ rfl hk Try.underlying134 rfl infoC) rfl ?_
  exact ⟨rfl, ((Below.refl w.heap.size w).alloc (Nat.le_refl _) _).alloc (by simp) _⟩
end Go.Proofs.Ytkcecijepbceiaa
