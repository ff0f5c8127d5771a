/-
  An argument that is a slice of chapter 3's steps, opened, with the lists in them.
  Conditions: the call's own.
-/
import Derived.Test.YtfjdcmhhnknojaaHoldInts
import Derived.Test.YtfjdcmhhnknojaaListOf
import Derived.Test.YtfjdcmhhnknojaaWire7
import Derived.Deep.Slices
import Derived.Deep.Fields
import Derived.Deep.Grids
import Derived.ChangeSame
namespace Go.Proofs.Ytfjdcmhhnknojaa
open Go.ChangeShapes Go.WideShapes Go.ChangeAt Go.RowKit Go.Deep

/-- A slice of truths that came in. -/
theorem open_boolsA {H : Type} {enc : TypeId × Value → H} {P : Program} {W : World} {t e : TypeId} {v : Value} {d : DataW H} {ps : List MemPlace} (ht : P.underlying t = some (.slice e)) (he : P.underlying e = some .bool) (hc : P.cellsOf e = 1)
    (hv : ∃ a n c, v = .slice a n c) (h : DataW.Trod enc P W 0 (fun _ => true) true t v d ps) (hlt : ∀ x ∈ ps, x.block < W.heap.size) :
    ∃ (A : Option Addr) (c : Nat) (ss : List Bool), v = .slice A ss.length c ∧ Reads W W.heap.size 1 A ss.length (bools ss) ∧ ss.length ≤ 9223372036854775807 := by
  obtain ⟨a0, n0, c0, rfl⟩ := hv
  obtain ⟨fuel, hf⟩ := h
  rcases open_bools ht he hc hf with ⟨hcs, hx⟩ | ⟨a, len, cap, B, hcs, _, hl, hm, hx, hcell⟩
  · simp [Value.cells] at hcs
    obtain ⟨rfl, rfl, rfl⟩ := hcs
    exact ⟨none, 0, [], rfl, Reads.none_, by simp⟩
  · simp [Value.cells] at hcs
    obtain ⟨rfl, rfl, rfl⟩ := hcs
    simp only [Prod.mk.injEq] at hx
    obtain ⟨_, rfl⟩ := hx
    unfold maxLen at hm
    have e1 : ((List.range n0).map B).length = n0 := by simp
    refine ⟨some a, c0, (List.range n0).map B, by rw [e1], ?_, by rw [e1]; omega⟩
    rw [e1]
    refine ⟨by rw [bools_len, e1]; omega, fun hn => ⟨a, rfl, ?_, fun j u hu => ?_⟩⟩
    · obtain ⟨p, hp, hpb⟩ := row_mem (ad := a) (n := c0) (by omega)
      rw [← hpb]
      exact hlt p hp
    · simp only [bools, List.map_map, List.getElem?_map, Option.map_eq_some_iff] at hu
      obtain ⟨i, hi, rfl⟩ := hu
      have hj : j < n0 := by have := (List.getElem?_eq_some_iff.1 hi).1; simpa using this
      have hij : i = j := by
        rw [List.getElem?_range hj] at hi
        injection hi with hi
        exact hi.symm
      subst hij
      exact hcell i (by omega)

/-- A step. -/
structure WOp where
  kind : Int
  nn : List Int
  na : Option Addr
  nc : Nat
  tt : List ByteArray
  ta : Option Addr
  tc : Nat
  bb : List Bool
  ba : Option Addr
  bc : Nat
def WOp.cells (x : WOp) : List Value := [.int .i64 x.kind, .slice x.na x.nn.length x.nc, .slice x.ta x.tt.length x.tc, .slice x.ba x.bb.length x.bc]
/-- What lies behind a step. -/
structure WOp.In (x : WOp) (w : World) (B : Nat) : Prop where
  rn : Reads w B 1 x.na x.nn.length (ints x.nn)
  rt : Reads w B 1 x.ta x.tt.length (strs x.tt)
  rb : Reads w B 1 x.ba x.bb.length (bools x.bb)
structure WOp.Fits (x : WOp) : Prop where
  ln : x.nn.length ≤ 9223372036854775807
  lt : x.tt.length ≤ 9223372036854775807
  lb : x.bb.length ≤ 9223372036854775807
  vn : ∀ v ∈ x.nn, -9223372036854775808 ≤ v ∧ v ≤ 9223372036854775807
  vt : ∀ s ∈ x.tt, s.size ≤ 9223372036854775807
  vk : -9223372036854775808 ≤ x.kind ∧ x.kind ≤ 9223372036854775807
theorem WOp.In.below {x : WOp} {w w' : World} {B : Nat} (h : x.In w B) (hb : Below B w w') : x.In w' B := ⟨h.rn.below hb, h.rt.below hb, h.rb.below hb⟩
/-- Steps in memory. -/
structure WOpsAt (w : World) (B : Nat) (A : Option Addr) (l : List WOp) : Prop where
  row : 0 < l.length → ∃ ad, A = some ad ∧ ad.block < B ∧ ∀ k x, l[k]? = some x → ∀ j v, x.cells[j]? = some v → w.cell? ((ad.add (k * 4)).add j) = some v
  ins : ∀ x ∈ l, x.In w B
theorem WOpsAt.below {w w' : World} {B : Nat} {A : Option Addr} {l : List WOp} (h : WOpsAt w B A l) (hb : Below B w w') : WOpsAt w' B A l := ⟨fun hn => by
  obtain ⟨ad, e, hB, hc⟩ := h.row hn
  exact ⟨ad, e, hB, fun k x hx j v hv => (hb.cell (by rw [block_of_add, block_of_add]; exact hB)).trans (hc k x hx j v hv)⟩, fun x hx => (h.ins x hx).below hb⟩
theorem WOpsAt.at_ {w : World} {B : Nat} {A : Option Addr} {l : List WOp} (h : WOpsAt w B A l) {k : Nat} (hk : k < l.length) :
    ∃ ad x, A = some ad ∧ ad.block < B ∧ l[k]? = some x ∧ (∀ j v, x.cells[j]? = some v → w.cell? ((ad.add (k * 4)).add j) = some v) ∧ x.In w B := by
  obtain ⟨ad, e, hB, hc⟩ := h.row (by omega)
  exact ⟨ad, l[k], e, hB, List.getElem?_eq_getElem hk, hc k _ (List.getElem?_eq_getElem hk), h.ins _ (List.getElem_mem hk)⟩
theorem cells_op : Try.prog.cellsOf 54 = 4 := by kernel_rfl
theorem cells_s1 : Try.prog.cellsOf 50 = 1 := by kernel_rfl
theorem cells_s2 : Try.prog.cellsOf 51 = 1 := by kernel_rfl
theorem cells_s3 : Try.prog.cellsOf 52 = 1 := by kernel_rfl
theorem cells_b1 : Try.prog.cellsOf 4 = 1 := by kernel_rfl
section
variable {H : Type} {enc : TypeId × Value → H} {w : World}
theorem is_slice {P : Program} {t e : TypeId} {n : Nat} {c : Value} {y : DataW H × List MemPlace} (ht : P.underlying t = some (.slice e)) (h : DataW.trod enc P w 0 (fun _ => true) true n t [c] = some y) :
    (∃ a n c', c = .slice a n c') ∧ DataW.Trod enc P w 0 (fun _ => true) true t c y.1 y.2 := by
  rcases open_slice ht h with ⟨hcs, _⟩ | ⟨a, len, cap, m, n, D, Pl, hcs, _⟩
  · simp only [List.cons.injEq, and_true] at hcs
    subst hcs
    exact ⟨⟨none, 0, 0, rfl⟩, ⟨_, by simpa [Value.cells] using h⟩⟩
  · simp only [List.cons.injEq, and_true] at hcs
    subst hcs
    exact ⟨⟨some a, len, cap, rfl⟩, ⟨_, by simpa [Value.cells] using h⟩⟩
theorem open_wop {n : Nat} {cs : List Value} {y : DataW H × List MemPlace} (hl : cs.length = 4) (h : DataW.trod enc Try.prog w 0 (fun _ => true) true n 54 cs = some y) (hlt : ∀ x ∈ y.2, x.block < w.heap.size) : ∃ x : WOp, cs = x.cells ∧ x.In w w.heap.size ∧ x.Fits := by
  match cs, hl with
  | [c0, c1, c2, c3], _ =>
    obtain ⟨ys, n', _, hy, hlen, hyl, hf⟩ := DataW.trod_struct Try.underlying54 h
    subst hy
    have g : ∀ j, j < 4 → ∃ y, ys[j]? = some y := fun j hj => ⟨_, List.getElem?_eq_getElem (by rw [hyl]; exact hj)⟩
    have hp : ∀ (j : Nat) (y : DataW H × List MemPlace), ys[j]? = some y → ∀ p ∈ y.2, p.block < w.heap.size := fun j y hj p hp => hlt p (List.mem_flatMap.2 ⟨y, List.mem_of_getElem? hj, hp⟩)
    obtain ⟨y0, e0⟩ := g 0 (by omega)
    obtain ⟨y1, e1⟩ := g 1 (by omega)
    obtain ⟨y2, e2⟩ := g 2 (by omega)
    obtain ⟨y3, e3⟩ := g 3 (by omega)
    have f0 : DataW.trod enc Try.prog w 0 (fun _ => true) true n' 3 (List.take (Try.prog.cellsOf 3) (List.drop 0 [c0, c1, c2, c3])) = some y0 := (hf 0 _ rfl).trans e0
    have f1 : DataW.trod enc Try.prog w 0 (fun _ => true) true n' 50 (List.take (Try.prog.cellsOf 50) (List.drop 1 [c0, c1, c2, c3])) = some y1 := (hf 1 _ rfl).trans e1
    have f2 : DataW.trod enc Try.prog w 0 (fun _ => true) true n' 51 (List.take (Try.prog.cellsOf 51) (List.drop 2 [c0, c1, c2, c3])) = some y2 := (hf 2 _ rfl).trans e2
    have f3 : DataW.trod enc Try.prog w 0 (fun _ => true) true n' 52 (List.take (Try.prog.cellsOf 52) (List.drop 3 [c0, c1, c2, c3])) = some y3 := (hf 3 _ rfl).trans e3
    simp only [cells_s1, cells_s2, cells_s3, cells_int, List.drop, List.take] at f0 f1 f2 f3
    obtain ⟨k, hk, _, wk⟩ := DataW.trod_int Try.underlying3 f0
    obtain ⟨s1, t1⟩ := is_slice Try.underlying50 f1
    obtain ⟨s2, t2⟩ := is_slice Try.underlying51 f2
    obtain ⟨s3, t3⟩ := is_slice Try.underlying52 f3
    obtain ⟨na, nc, nn, rfl, rn, _, ln, vn⟩ := open_intsA Try.underlying50 Try.underlying3 cells_int s1 t1 (hp 1 y1 e1)
    obtain ⟨ta, tc, tt, rfl, rt, _, lt, vt⟩ := open_texts Try.underlying51 Try.underlying9 cells_string s2 t2 (hp 2 y2 e2)
    obtain ⟨ba, bc, bb, rfl, rb, lb⟩ := open_boolsA Try.underlying52 Try.underlying4 cells_b1 s3 t3 (hp 3 y3 e3)
    simp only [List.cons.injEq, and_true] at hk
    subst hk
    exact ⟨⟨k, nn, na, nc, tt, ta, tc, bb, ba, bc⟩, rfl, ⟨rn, rt, rb⟩, ⟨ln, lt, lb, vn, vt, bounds_i64 wk⟩⟩
end
/-- A slice of steps that came in. -/
theorem open_wops {H : Type} {enc : TypeId × Value → H} {W : World} {v : Value} {d : DataW H} {ps : List MemPlace}
    (hv : ∃ a n c, v = .slice a n c) (h : DataW.Trod enc Try.prog W 0 (fun _ => true) true 42 v d ps) (hlt : ∀ x ∈ ps, x.block < W.heap.size) :
    ∃ (A : Option Addr) (c : Nat) (l : List WOp), v = .slice A l.length c ∧ WOpsAt W W.heap.size A l ∧ l.length ≤ c ∧ l.length ≤ 9223372036854775807 ∧ ∀ x ∈ l, x.Fits := by
  obtain ⟨a0, n0, c0, rfl⟩ := hv
  obtain ⟨fuel, hf⟩ := h
  rcases open_slice Try.underlying42 hf with ⟨hcs, hx⟩ | ⟨a, len, cap, m, n, D, Pl, hcs, _, hl, hm, hmm, hx, hi⟩
  · simp [Value.cells] at hcs
    obtain ⟨rfl, rfl, rfl⟩ := hcs
    exact ⟨none, 0, [], rfl, ⟨fun h => absurd h (by simp), by simp⟩, Nat.le_refl _, by simp, by simp⟩
  · simp [Value.cells] at hcs
    obtain ⟨rfl, rfl, rfl⟩ := hcs
    simp only [if_true] at hmm
    unfold maxLen at hm
    simp only [Prod.mk.injEq] at hx
    obtain ⟨_, rfl⟩ := hx
    rw [cells_op] at hlt
    obtain ⟨l, hll, hli⟩ := list_of (n := n0) (Q := fun i (x : WOp) => (x.In W W.heap.size ∧ x.Fits) ∧ ∀ j v, x.cells[j]? = some v → W.cell? ((a.add (i * 4)).add j) = some v) (by
      intro i hin
      obtain ⟨cs', hc, ht'⟩ := hi i (by omega)
      rw [cells_op] at hc
      obtain ⟨_, hcl, hat⟩ := World.cells?_some hc
      obtain ⟨x, rfl, hin', hfx⟩ := open_wop hcl ht' (fun p hp => hlt p (List.mem_append.2 (.inr (List.mem_flatMap.2 ⟨i, List.mem_range.2 (by omega), hp⟩))))
      refine ⟨x, ⟨hin', hfx⟩, fun j v hj => ?_⟩
      have hjl : j < 4 := (List.getElem?_eq_some_iff.1 hj).1
      rw [hat j hjl]
      exact hj)
    have hall : ∀ x ∈ l, x.In W W.heap.size ∧ x.Fits := fun x hx => by
      obtain ⟨i, hi9, hix⟩ := List.getElem_of_mem hx
      exact (hli i x (by rw [← hix]; exact List.getElem?_eq_getElem hi9)).1
    refine ⟨some a, c0, l, by rw [hll], ⟨fun hn => ⟨a, rfl, ?_, fun k x hx => (hli k x hx).2⟩, fun x hx => (hall x hx).1⟩, by omega, by omega, fun x hx => (hall x hx).2⟩
    obtain ⟨p, hp, hpb⟩ := row_mem (ad := a) (n := m * 4) (by omega)
    rw [← hpb]
    exact hlt p (by simp [hp])
end Go.Proofs.Ytfjdcmhhnknojaa
