/-
  An argument that is a slice of chapter 2's steps, opened, with the lists in them.
  Conditions: the call's own.
-/
import Derived.Test.YtlniafpbkhkkaaaGreatHold
import Derived.Test.YtlniafpbkhkkaaaGreatListOf
import Derived.Test.YtlniafpbkhkkaaaGreatWords2
import Derived.Deep.Slices
import Derived.Deep.Fields
import Derived.ChangeSame
namespace Go.Proofs.YtlniafpbkhkkaaaGreat
open Go.ChangeShapes Go.WideShapes Go.ChangeAt Go.RowKit Go.Deep
set_option maxRecDepth 100000

/-- A step. -/
structure NOp where
  kind : Int
  tt : List ByteArray
  ta : Option Addr
  tc : Nat
def NOp.cells (x : NOp) : List Value := [.int .i64 x.kind, .slice x.ta x.tt.length x.tc]
structure NOp.Fits (x : NOp) : Prop where
  lt : x.tt.length ≤ 9223372036854775807
  vt : ∀ s ∈ x.tt, s.size ≤ 9223372036854775807
  vk : -9223372036854775808 ≤ x.kind ∧ x.kind ≤ 9223372036854775807
/-- Steps in memory. -/
structure NOpsAt (w : World) (B : Nat) (A : Option Addr) (l : List NOp) : Prop where
  row : 0 < l.length → ∃ ad, A = some ad ∧ ad.block < B ∧ ∀ k x, l[k]? = some x → ∀ j v, x.cells[j]? = some v → w.cell? ((ad.add (k * 2)).add j) = some v
  ins : ∀ x ∈ l, Reads w B 1 x.ta x.tt.length (strs x.tt)
theorem NOpsAt.below {w w' : World} {B : Nat} {A : Option Addr} {l : List NOp} (h : NOpsAt w B A l) (hb : Below B w w') : NOpsAt w' B A l := ⟨fun hn => by
  obtain ⟨ad, e, hB, hc⟩ := h.row hn
  exact ⟨ad, e, hB, fun k x hx j v hv => (hb.cell (by rw [block_of_add, block_of_add]; exact hB)).trans (hc k x hx j v hv)⟩, fun x hx => (h.ins x hx).below hb⟩
theorem NOpsAt.at_ {w : World} {B : Nat} {A : Option Addr} {l : List NOp} (h : NOpsAt w B A l) {k : Nat} (hk : k < l.length) :
    ∃ ad x, A = some ad ∧ ad.block < B ∧ l[k]? = some x ∧ (∀ j v, x.cells[j]? = some v → w.cell? ((ad.add (k * 2)).add j) = some v) ∧ Reads w B 1 x.ta x.tt.length (strs x.tt) := by
  obtain ⟨ad, e, hB, hc⟩ := h.row (by omega)
  exact ⟨ad, l[k], e, hB, List.getElem?_eq_getElem hk, hc k _ (List.getElem?_eq_getElem hk), h.ins _ (List.getElem_mem hk)⟩
theorem cells_nop : Tryz.prog.cellsOf 62 = 2 := by kernel_rfl
theorem cells_ns2 : Tryz.prog.cellsOf 22 = 1 := by kernel_rfl
theorem cells_nint : Tryz.prog.cellsOf 3 = 1 := by kernel_rfl
section
variable {H : Type} {enc : TypeId × Value → H} {w : World}
theorem is_slice {P : Program} {t e : TypeId} {n : Nat} {c : Value} {y : DataW H × List MemPlace} (ht : P.underlying t = some (.slice e)) (h : DataW.trod enc P w 0 (fun _ => true) true n t [c] = some y) :
    (∃ a n c', c = .slice a n c') ∧ DataW.Trod enc P w 0 (fun _ => true) true t c y.1 y.2 := by
  rcases open_slice ht h with ⟨hcs, _⟩ | ⟨a, len, cap, m, n, D, Pl, hcs, _⟩
  · simp only [List.cons.injEq, and_true] at hcs
    subst hcs
    exact ⟨⟨none, 0, 0, rfl⟩, ⟨_, by simpa [Value.cells] using h⟩⟩
  · simp only [List.cons.injEq, and_true] at hcs
    subst hcs
    exact ⟨⟨some a, len, cap, rfl⟩, ⟨_, by simpa [Value.cells] using h⟩⟩
theorem open_nop {n : Nat} {cs : List Value} {y : DataW H × List MemPlace} (hl : cs.length = 2) (h : DataW.trod enc Tryz.prog w 0 (fun _ => true) true n 62 cs = some y) (hlt : ∀ x ∈ y.2, x.block < w.heap.size) : ∃ x : NOp, cs = x.cells ∧ Reads w w.heap.size 1 x.ta x.tt.length (strs x.tt) ∧ x.Fits := by
  match cs, hl with
  | [c0, c1], _ =>
    obtain ⟨ys, n', _, hy, hlen, hyl, hf⟩ := DataW.trod_struct Tryz.underlying62 h
    subst hy
    have g : ∀ j, j < 2 → ∃ y, ys[j]? = some y := fun j hj => ⟨_, List.getElem?_eq_getElem (by rw [hyl]; exact hj)⟩
    have hp : ∀ (j : Nat) (y : DataW H × List MemPlace), ys[j]? = some y → ∀ p ∈ y.2, p.block < w.heap.size := fun j y hj p hp => hlt p (List.mem_flatMap.2 ⟨y, List.mem_of_getElem? hj, hp⟩)
    obtain ⟨y0, e0⟩ := g 0 (by omega)
    obtain ⟨y1, e1⟩ := g 1 (by omega)
    have f0 : DataW.trod enc Tryz.prog w 0 (fun _ => true) true n' 3 (List.take (Tryz.prog.cellsOf 3) (List.drop 0 [c0, c1])) = some y0 := (hf 0 _ rfl).trans e0
    have f1 : DataW.trod enc Tryz.prog w 0 (fun _ => true) true n' 22 (List.take (Tryz.prog.cellsOf 22) (List.drop 1 [c0, c1])) = some y1 := (hf 1 _ rfl).trans e1
    simp only [cells_ns2, cells_nint, List.drop, List.take] at f0 f1
    obtain ⟨k, hk, _, wk⟩ := DataW.trod_int Tryz.underlying3 f0
    obtain ⟨s1, t1⟩ := is_slice Tryz.underlying22 f1
    obtain ⟨ta, tc, tt, rfl, rt, _, lt, vt⟩ := open_texts Tryz.underlying22 Tryz.underlying9 cells_string s1 t1 (hp 1 y1 e1)
    simp only [List.cons.injEq, and_true] at hk
    subst hk
    exact ⟨⟨k, tt, ta, tc⟩, rfl, rt, ⟨lt, vt, bounds_i64 wk⟩⟩
end
/-- A slice of steps that came in. -/
theorem open_nops {H : Type} {enc : TypeId × Value → H} {W : World} {v : Value} {d : DataW H} {ps : List MemPlace}
    (hv : ∃ a n c, v = .slice a n c) (h : DataW.Trod enc Tryz.prog W 0 (fun _ => true) true 52 v d ps) (hlt : ∀ x ∈ ps, x.block < W.heap.size) :
    ∃ (A : Option Addr) (c : Nat) (l : List NOp), v = .slice A l.length c ∧ NOpsAt W W.heap.size A l ∧ l.length ≤ c ∧ l.length ≤ 9223372036854775807 ∧ ∀ x ∈ l, x.Fits := by
  obtain ⟨a0, n0, c0, rfl⟩ := hv
  obtain ⟨fuel, hf⟩ := h
  rcases open_slice Tryz.underlying52 hf with ⟨hcs, hx⟩ | ⟨a, len, cap, m, n, D, Pl, hcs, _, hl, hm, hmm, hx, hi⟩
  · simp [Value.cells] at hcs
    obtain ⟨rfl, rfl, rfl⟩ := hcs
    exact ⟨none, 0, [], rfl, ⟨fun h => absurd h (by simp), by simp⟩, Nat.le_refl _, by simp, by simp⟩
  · simp [Value.cells] at hcs
    obtain ⟨rfl, rfl, rfl⟩ := hcs
    simp only [if_true] at hmm
    unfold maxLen at hm
    simp only [Prod.mk.injEq] at hx
    obtain ⟨_, rfl⟩ := hx
    rw [cells_nop] at hlt
    obtain ⟨l, hll, hli⟩ := list_of (n := n0) (Q := fun i (x : NOp) => (Reads W W.heap.size 1 x.ta x.tt.length (strs x.tt) ∧ x.Fits) ∧ ∀ j v, x.cells[j]? = some v → W.cell? ((a.add (i * 2)).add j) = some v) (by
      intro i hin
      obtain ⟨cs', hc, ht'⟩ := hi i (by omega)
      rw [cells_nop] at hc
      obtain ⟨_, hcl, hat⟩ := World.cells?_some hc
      obtain ⟨x, rfl, hin', hfx⟩ := open_nop hcl ht' (fun p hp => hlt p (List.mem_append.2 (.inr (List.mem_flatMap.2 ⟨i, List.mem_range.2 (by omega), hp⟩))))
      refine ⟨x, ⟨hin', hfx⟩, fun j v hj => ?_⟩
      have hjl : j < 2 := (List.getElem?_eq_some_iff.1 hj).1
      rw [hat j hjl]
      exact hj)
    have hall : ∀ x ∈ l, Reads W W.heap.size 1 x.ta x.tt.length (strs x.tt) ∧ x.Fits := fun x hx => by
      obtain ⟨i, hi9, hix⟩ := List.getElem_of_mem hx
      exact (hli i x (by rw [← hix]; exact List.getElem?_eq_getElem hi9)).1
    refine ⟨some a, c0, l, by rw [hll], ⟨fun hn => ⟨a, rfl, ?_, fun k x hx => (hli k x hx).2⟩, fun x hx => (hall x hx).1⟩, by omega, by omega, fun x hx => (hall x hx).2⟩
    obtain ⟨p, hp, hpb⟩ := row_mem (ad := a) (n := m * 2) (by omega)
    rw [← hpb]
    exact hlt p (by simp [hp])
end Go.Proofs.YtlniafpbkhkkaaaGreat
