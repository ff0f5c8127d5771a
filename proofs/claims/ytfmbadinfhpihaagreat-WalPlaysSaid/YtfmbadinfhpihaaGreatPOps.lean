/-
  An argument that is a slice of chapter 6's steps, opened, with the lists in them.
  Conditions: the call's own.
-/
import Derived.Test.YtfmbadinfhpihaaGreatDOps
import Derived.Test.YtfmbadinfhpihaaGreatWalPlain
import Derived.Test.YtfmbadinfhpihaaGreatDisk12
import Derived.Deep.Slices
import Derived.Deep.Fields
import Derived.Deep.Grids
import Derived.ChangeSame
set_option linter.unusedVariables false
set_option linter.unusedSimpArgs false
namespace Go.Proofs.YtfmbadinfhpihaaGreat
open Go.ChangeShapes Go.WideShapes Go.ChangeAt Go.RowKit Go.Deep
set_option maxRecDepth 100000

/-- A step: its kind, a number, texts, numbers. -/
structure POp where
  kind : Int
  num : Int
  tt : List ByteArray
  ta : Option Addr
  tc : Nat
  nn : List Int
  na : Option Addr
  nc : Nat
def POp.cells (x : POp) : List Value := [.int .i64 x.kind, .int .i64 x.num, .slice x.ta x.tt.length x.tc, .slice x.na x.nn.length x.nc]
/-- What lies behind a step. -/
structure POp.In (x : POp) (w : World) (B : Nat) : Prop where
  rt : Reads w B 1 x.ta x.tt.length (strs x.tt)
  rn : Reads w B 1 x.na x.nn.length (ints x.nn)
structure POp.Fits (x : POp) : Prop where
  lt : x.tt.length ≤ 9223372036854775807
  ln : x.nn.length ≤ 9223372036854775807
  vt : ∀ s ∈ x.tt, s.size ≤ 9223372036854775807
  vm : -9223372036854775808 ≤ x.num ∧ x.num ≤ 9223372036854775807
  vn : ∀ v ∈ x.nn, -9223372036854775808 ≤ v ∧ v ≤ 9223372036854775807
  vk : -9223372036854775808 ≤ x.kind ∧ x.kind ≤ 9223372036854775807
theorem POp.In.below {x : POp} {w w' : World} {B : Nat} (h : x.In w B) (hb : Below B w w') : x.In w' B := ⟨h.rt.below hb, h.rn.below hb⟩
/-- Steps in memory. -/
structure POpsAt (w : World) (B : Nat) (A : Option Addr) (l : List POp) : Prop where
  row : 0 < l.length → ∃ ad, A = some ad ∧ ad.block < B ∧ ∀ k x, l[k]? = some x → ∀ j v, x.cells[j]? = some v → w.cell? ((ad.add (k * 4)).add j) = some v
  ins : ∀ x ∈ l, x.In w B
theorem POpsAt.below {w w' : World} {B : Nat} {A : Option Addr} {l : List POp} (h : POpsAt w B A l) (hb : Below B w w') : POpsAt w' B A l := ⟨fun hn => by
  obtain ⟨ad, e, hB, hc⟩ := h.row hn
  exact ⟨ad, e, hB, fun k x hx j v hv => (hb.cell (by rw [block_of_add, block_of_add]; exact hB)).trans (hc k x hx j v hv)⟩, fun x hx => (h.ins x hx).below hb⟩
theorem POpsAt.at_ {w : World} {B : Nat} {A : Option Addr} {l : List POp} (h : POpsAt w B A l) {k : Nat} (hk : k < l.length) :
    ∃ ad x, A = some ad ∧ ad.block < B ∧ l[k]? = some x ∧ (∀ j v, x.cells[j]? = some v → w.cell? ((ad.add (k * 4)).add j) = some v) ∧ x.In w B := by
  obtain ⟨ad, e, hB, hc⟩ := h.row (by omega)
  exact ⟨ad, l[k], e, hB, List.getElem?_eq_getElem hk, hc k _ (List.getElem?_eq_getElem hk), h.ins _ (List.getElem_mem hk)⟩
theorem cells_pop : Tryz.prog.cellsOf 88 = 4 := by kernel_rfl
theorem cells_p1 : Tryz.prog.cellsOf 50 = 1 := by kernel_rfl
theorem cells_p2 : Tryz.prog.cellsOf 22 = 1 := by kernel_rfl
section
variable {H : Type} {enc : TypeId × Value → H} {w : World}
theorem is_slice {P : Program} {t e : TypeId} {n : Nat} {c : Value} {y : DataW H × List MemPlace} (ht : P.underlying t = some (.slice e)) (h : DataW.trod enc P w 0 (fun _ => true) true n t [c] = some y) :
    (∃ a n c', c = .slice a n c') ∧ DataW.Trod enc P w 0 (fun _ => true) true t c y.1 y.2 := by
  rcases open_slice ht h with ⟨hcs, _⟩ | ⟨a, len, cap, m, n, D, Pl, hcs, _⟩
  · simp only [List.cons.injEq, and_true] at hcs
    subst hcs
    exact ⟨⟨none, 0, 0, rfl⟩, ⟨_, by simpa [Value.cells] using h⟩⟩
  · simp only [List.cons.injEq, and_true] at hcs
    subst hcs
    exact ⟨⟨some a, len, cap, rfl⟩, ⟨_, by simpa [Value.cells] using h⟩⟩
theorem open_pop {n : Nat} {cs : List Value} {y : DataW H × List MemPlace} (hl : cs.length = 4) (h : DataW.trod enc Tryz.prog w 0 (fun _ => true) true n 88 cs = some y) (hlt : ∀ x ∈ y.2, x.block < w.heap.size) : ∃ x : POp, cs = x.cells ∧ x.In w w.heap.size ∧ x.Fits := by
  match cs, hl with
  | [c0, c1, c2, c3], _ =>
    obtain ⟨ys, n', _, hy, hlen, hyl, hf⟩ := DataW.trod_struct Tryz.underlying88 h
    subst hy
    have g : ∀ j, j < 4 → ∃ y, ys[j]? = some y := fun j hj => ⟨_, List.getElem?_eq_getElem (by rw [hyl]; exact hj)⟩
    have hp : ∀ (j : Nat) (y : DataW H × List MemPlace), ys[j]? = some y → ∀ p ∈ y.2, p.block < w.heap.size := fun j y hj p hp => hlt p (List.mem_flatMap.2 ⟨y, List.mem_of_getElem? hj, hp⟩)
    obtain ⟨y0, e0⟩ := g 0 (by omega)
    obtain ⟨y1, e1⟩ := g 1 (by omega)
    obtain ⟨y2, e2⟩ := g 2 (by omega)
    obtain ⟨y3, e3⟩ := g 3 (by omega)
    have f0 : DataW.trod enc Tryz.prog w 0 (fun _ => true) true n' 3 (List.take (Tryz.prog.cellsOf 3) (List.drop 0 [c0, c1, c2, c3])) = some y0 := (hf 0 _ rfl).trans e0
    have f1 : DataW.trod enc Tryz.prog w 0 (fun _ => true) true n' 3 (List.take (Tryz.prog.cellsOf 3) (List.drop 1 [c0, c1, c2, c3])) = some y1 := (hf 1 _ rfl).trans e1
    have f2 : DataW.trod enc Tryz.prog w 0 (fun _ => true) true n' 22 (List.take (Tryz.prog.cellsOf 22) (List.drop 2 [c0, c1, c2, c3])) = some y2 := (hf 2 _ rfl).trans e2
    have f3 : DataW.trod enc Tryz.prog w 0 (fun _ => true) true n' 50 (List.take (Tryz.prog.cellsOf 50) (List.drop 3 [c0, c1, c2, c3])) = some y3 := (hf 3 _ rfl).trans e3
    simp only [cells_p1, cells_p2, cells_int, cells_string, List.drop, List.take] at f0 f1 f2 f3
    obtain ⟨k0, hk0, _, wk0⟩ := DataW.trod_int Tryz.underlying3 f0
    obtain ⟨k1, hk1, _, wk1⟩ := DataW.trod_int Tryz.underlying3 f1
    obtain ⟨s3, t3⟩ := is_slice Tryz.underlying22 f2
    obtain ⟨s4, t4⟩ := is_slice Tryz.underlying50 f3
    obtain ⟨ta, tc, tt, rfl, rt, _, lt, vt⟩ := open_texts Tryz.underlying22 Tryz.underlying9 cells_string s3 t3 (hp 2 y2 e2)
    obtain ⟨na, nc, nn, rfl, rn, _, ln, vn⟩ := open_intsA Tryz.underlying50 Tryz.underlying3 cells_int s4 t4 (hp 3 y3 e3)
    simp only [List.cons.injEq, and_true] at hk0 hk1
    subst hk0 hk1
    exact ⟨⟨k0, k1, tt, ta, tc, nn, na, nc⟩, rfl, ⟨rt, rn⟩, ⟨lt, ln, vt, bounds_i64 wk1, vn, bounds_i64 wk0⟩⟩
end
/-- A slice of steps that came in. -/
theorem open_pops {H : Type} {enc : TypeId × Value → H} {W : World} {v : Value} {d : DataW H} {ps : List MemPlace}
    (hv : ∃ a n c, v = .slice a n c) (h : DataW.Trod enc Tryz.prog W 0 (fun _ => true) true 56 v d ps) (hlt : ∀ x ∈ ps, x.block < W.heap.size) :
    ∃ (A : Option Addr) (c : Nat) (l : List POp), v = .slice A l.length c ∧ POpsAt W W.heap.size A l ∧ l.length ≤ c ∧ l.length ≤ 9223372036854775807 ∧ ∀ x ∈ l, x.Fits := by
  obtain ⟨a0, n0, c0, rfl⟩ := hv
  obtain ⟨fuel, hf⟩ := h
  rcases open_slice Tryz.underlying56 hf with ⟨hcs, hx⟩ | ⟨a, len, cap, m, n, D, Pl, hcs, _, hl, hm, hmm, hx, hi⟩
  · simp [Value.cells] at hcs
    obtain ⟨rfl, rfl, rfl⟩ := hcs
    exact ⟨none, 0, [], rfl, ⟨fun h => absurd h (by simp), by simp⟩, Nat.le_refl _, by simp, by simp⟩
  · simp [Value.cells] at hcs
    obtain ⟨rfl, rfl, rfl⟩ := hcs
    simp only [if_true] at hmm
    unfold maxLen at hm
    simp only [Prod.mk.injEq] at hx
    obtain ⟨_, rfl⟩ := hx
    rw [cells_pop] at hlt
    obtain ⟨l, hll, hli⟩ := list_of (n := n0) (Q := fun i (x : POp) => (x.In W W.heap.size ∧ x.Fits) ∧ ∀ j v, x.cells[j]? = some v → W.cell? ((a.add (i * 4)).add j) = some v) (by
      intro i hin
      obtain ⟨cs', hc, ht'⟩ := hi i (by omega)
      rw [cells_pop] at hc
      obtain ⟨_, hcl, hat⟩ := World.cells?_some hc
      obtain ⟨x, rfl, hin', hfx⟩ := open_pop hcl ht' (fun p hp => hlt p (List.mem_append.2 (.inr (List.mem_flatMap.2 ⟨i, List.mem_range.2 (by omega), hp⟩))))
      refine ⟨x, ⟨hin', hfx⟩, fun j v hj => ?_⟩
      have hjl : j < 4 := (List.getElem?_eq_some_iff.1 hj).1
      rw [hat j hjl]
      exact hj)
    have hall : ∀ x ∈ l, x.In W W.heap.size ∧ x.Fits := fun x hx => by
      obtain ⟨i, hi9, hix⟩ := List.getElem_of_mem hx
      exact (hli i x (by rw [← hix]; exact List.getElem?_eq_getElem hi9)).1
    refine ⟨some a, c0, l, by rw [hll], ⟨fun hn => ⟨a, rfl, ?_, fun k x hx => (hli k x hx).2⟩, fun x hx => (hall x hx).1⟩, by omega, by omega, fun x hx => (hall x hx).2⟩
    obtain ⟨p, hp, hpb⟩ := row_mem (ad := a) (n := m * 4) (by omega)
    rw [← hpb]
    exact hlt p (by simp [hp])
end Go.Proofs.YtfmbadinfhpihaaGreat
