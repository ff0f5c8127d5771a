/-
  An argument that is a slice of chapter 5's steps, opened; are the steps light.
  Conditions: the call's own.
-/
import Derived.Test.YtofnglegdhchnaaHold
import Derived.Test.YtofnglegdhchnaaListOf
import Derived.Test.YtofnglegdhchnaaRoom
import Derived.Deep.Slices
import Derived.Deep.Fields
import Derived.ChangeSame
namespace Go.Proofs.Ytofnglegdhchnaa
open Go.ChangeShapes Go.WideShapes Go.ChangeAt Go.RowKit Go.Deep

/-- A step. -/
structure DOp where
  kind : Int
  num : Int
  a : ByteArray
  b : ByteArray
  la : Option Addr
  ln : Nat
  lc : Nat
def DOp.cells (x : DOp) : List Value := [.int .i64 x.kind, .int .i64 x.num, .string x.a, .string x.b, .slice x.la x.ln x.lc]
def DOp.Fits (x : DOp) : Prop := (-9223372036854775808 ≤ x.kind ∧ x.kind ≤ 9223372036854775807) ∧ x.a.size ≤ 9223372036854775807 ∧ x.b.size ≤ 9223372036854775807 ∧ x.ln ≤ 9223372036854775807
/-- Steps in memory. -/
def OpsAt (w : World) (B : Nat) (A : Option Addr) (l : List DOp) : Prop :=
  0 < l.length → ∃ ad, A = some ad ∧ ad.block < B ∧ ∀ k x, l[k]? = some x → ∀ j v, x.cells[j]? = some v → w.cell? ((ad.add (k * 5)).add j) = some v
theorem OpsAt.below {w w' : World} {B : Nat} {A : Option Addr} {l : List DOp} (h : OpsAt w B A l) (hb : Below B w w') : OpsAt w' B A l := fun hn => by
  obtain ⟨ad, e, hB, hc⟩ := h hn
  exact ⟨ad, e, hB, fun k x hx j v hv => (hb.cell (by rw [block_of_add, block_of_add]; exact hB)).trans (hc k x hx j v hv)⟩
theorem OpsAt.at_ {w : World} {B : Nat} {A : Option Addr} {l : List DOp} (h : OpsAt w B A l) {k : Nat} (hk : k < l.length) :
    ∃ ad x, A = some ad ∧ ad.block < B ∧ l[k]? = some x ∧ ∀ j v, x.cells[j]? = some v → w.cell? ((ad.add (k * 5)).add j) = some v := by
  obtain ⟨ad, e, hB, hc⟩ := h (by omega)
  exact ⟨ad, l[k], e, hB, List.getElem?_eq_getElem hk, hc k _ (List.getElem?_eq_getElem hk)⟩
theorem cells_op : Try.prog.cellsOf 48 = 5 := by kernel_rfl
theorem cells_int1 : Try.prog.cellsOf 3 = 1 := by kernel_rfl
theorem cells_ints1 : Try.prog.cellsOf 46 = 1 := by kernel_rfl
theorem cells_str1 : Try.prog.cellsOf 9 = 1 := by kernel_rfl
section
variable {H : Type} {enc : TypeId × Value → H} {w : World} {base : Nat} {spare : Nat → Bool} {held : Bool}
theorem open_dop {n : Nat} {cs : List Value} {y : DataW H × List MemPlace} (hl : cs.length = 5) (h : DataW.trod enc Try.prog w base spare held n 48 cs = some y) : ∃ x : DOp, cs = x.cells ∧ x.Fits := by
  match cs, hl with
  | [c0, c1, c2, c3, c4], _ =>
    obtain ⟨ys, n', _, _, hlen, hyl, hf⟩ := DataW.trod_struct Try.underlying48 h
    have g : ∀ j, j < 5 → ∃ y, ys[j]? = some y := fun j hj => ⟨_, List.getElem?_eq_getElem (by rw [hyl]; exact hj)⟩
    obtain ⟨y0, e0⟩ := g 0 (by omega)
    obtain ⟨y1, e1⟩ := g 1 (by omega)
    obtain ⟨y2, e2⟩ := g 2 (by omega)
    obtain ⟨y3, e3⟩ := g 3 (by omega)
    obtain ⟨y4, e4⟩ := g 4 (by omega)
    have f0 : DataW.trod enc Try.prog w base spare held n' 3 (List.take (Try.prog.cellsOf 3) (List.drop 0 [c0, c1, c2, c3, c4])) = some y0 := (hf 0 _ rfl).trans e0
    have f1 : DataW.trod enc Try.prog w base spare held n' 3 (List.take (Try.prog.cellsOf 3) (List.drop 1 [c0, c1, c2, c3, c4])) = some y1 := (hf 1 _ rfl).trans e1
    have f2 : DataW.trod enc Try.prog w base spare held n' 9 (List.take (Try.prog.cellsOf 9) (List.drop 2 [c0, c1, c2, c3, c4])) = some y2 := (hf 2 _ rfl).trans e2
    have f3 : DataW.trod enc Try.prog w base spare held n' 9 (List.take (Try.prog.cellsOf 9) (List.drop 3 [c0, c1, c2, c3, c4])) = some y3 := (hf 3 _ rfl).trans e3
    have f4 : DataW.trod enc Try.prog w base spare held n' 46 (List.take (Try.prog.cellsOf 46) (List.drop 4 [c0, c1, c2, c3, c4])) = some y4 := (hf 4 _ rfl).trans e4
    simp only [cells_str1, cells_int1, cells_ints1, List.drop, List.take] at f0 f1 f2 f3 f4
    obtain ⟨k, hk, _, wk⟩ := DataW.trod_int Try.underlying3 f0
    obtain ⟨u, hu, _, wu⟩ := DataW.trod_int Try.underlying3 f1
    obtain ⟨a, ha, _, wa⟩ := DataW.trod_string Try.underlying9 f2
    obtain ⟨b, hb, _, wb⟩ := DataW.trod_string Try.underlying9 f3
    have hs : ∃ (la : Option Addr) (ln lc : Nat), c4 = .slice la ln lc ∧ ln ≤ 9223372036854775807 := by
      rcases open_slice Try.underlying46 f4 with ⟨hcs, _⟩ | ⟨a, len, cap, m, n, D, Pl, hcs, _, hl, hm, _⟩
      · simp only [List.cons.injEq, and_true] at hcs
        exact ⟨none, 0, 0, hcs, by decide⟩
      · simp only [List.cons.injEq, and_true] at hcs
        unfold maxLen at hm
        exact ⟨some a, len, cap, hcs, by omega⟩
    obtain ⟨la, ln, lc, rfl, hln⟩ := hs
    simp only [List.cons.injEq, and_true] at hk hu ha hb
    subst hk hu ha hb
    exact ⟨⟨k, u, a, b, la, ln, lc⟩, rfl, bounds_i64 wk, wa, wb, hln⟩
end
/-- A slice of steps that came in. -/
theorem open_dops {H : Type} {enc : TypeId × Value → H} {W : World} {v : Value} {d : DataW H} {ps : List MemPlace}
    (hv : ∃ a n c, v = .slice a n c) (h : DataW.Trod enc Try.prog W 0 (fun _ => true) true 44 v d ps) (hlt : ∀ x ∈ ps, x.block < W.heap.size) :
    ∃ (A : Option Addr) (c : Nat) (l : List DOp), v = .slice A l.length c ∧ OpsAt W W.heap.size A l ∧ l.length ≤ c ∧ l.length ≤ 9223372036854775807 ∧ ∀ x ∈ l, x.Fits := by
  obtain ⟨a0, n0, c0, rfl⟩ := hv
  obtain ⟨fuel, hf⟩ := h
  rcases open_slice Try.underlying44 hf with ⟨hcs, hx⟩ | ⟨a, len, cap, m, n, D, Pl, hcs, _, hl, hm, hmm, hx, hi⟩
  · simp [Value.cells] at hcs
    obtain ⟨rfl, rfl, rfl⟩ := hcs
    exact ⟨none, 0, [], rfl, fun h => absurd h (by simp), Nat.le_refl _, by simp, by simp⟩
  · simp [Value.cells] at hcs
    obtain ⟨rfl, rfl, rfl⟩ := hcs
    simp only [if_true] at hmm
    unfold maxLen at hm
    obtain ⟨l, hll, hli⟩ := list_of (n := n0) (Q := fun i (x : DOp) => x.Fits ∧ ∀ j v, x.cells[j]? = some v → W.cell? ((a.add (i * 5)).add j) = some v) (by
      intro i hin
      obtain ⟨cs', hc, ht'⟩ := hi i (by omega)
      rw [cells_op] at hc
      obtain ⟨_, hcl, hat⟩ := World.cells?_some hc
      obtain ⟨x, rfl, hfx⟩ := open_dop hcl ht'
      refine ⟨x, hfx, fun j v hj => ?_⟩
      have hjl : j < 5 := (List.getElem?_eq_some_iff.1 hj).1
      rw [hat j hjl]
      exact hj)
    refine ⟨some a, c0, l, by rw [hll], fun hn => ⟨a, rfl, ?_, fun k x hx => (hli k x hx).2⟩, by omega, by omega, fun x hx => ?_⟩
    · simp only [Prod.mk.injEq] at hx
      obtain ⟨_, rfl⟩ := hx
      rw [cells_op] at hlt
      obtain ⟨p, hp, hpb⟩ := row_mem (ad := a) (n := m * 5) (by omega)
      rw [← hpb]
      exact hlt p (by simp [hp])
    · obtain ⟨i, hi9, hix⟩ := List.getElem_of_mem hx
      exact (hli i x (by rw [← hix]; exact List.getElem?_eq_getElem hi9)).1
end Go.Proofs.Ytofnglegdhchnaa
