/-
  An argument that is a slice of stocks, opened.
  Conditions: the call's own.
-/
import Derived.Test.YtiekolbkmgdfoaaHold
import Derived.Test.YtiekolbkmgdfoaaPick
import Derived.Deep.Slices
import Derived.Deep.Fields
import Derived.ChangeSame
namespace Go.Proofs.Ytiekolbkmgdfoaa
open Go.ChangeShapes Go.WideShapes Go.ChangeAt Go.RowKit Go.Deep

theorem cells_asset : Try.prog.cellsOf 25 = 8 := by kernel_rfl
theorem cells_stock : Try.prog.cellsOf 27 = 9 := by kernel_rfl
theorem cells_int1 : Try.prog.cellsOf 3 = 1 := by kernel_rfl
theorem cells_bool1 : Try.prog.cellsOf 4 = 1 := by kernel_rfl
section
variable {H : Type} {enc : TypeId × Value → H} {w : World} {base : Nat} {spare : Nat → Bool} {held : Bool}
theorem open_asset {n : Nat} {c0 c1 c2 c3 c4 c5 c6 c7 : Value} {y : DataW H × List MemPlace} (h : DataW.trod enc Try.prog w base spare held n 25 [c0, c1, c2, c3, c4, c5, c6, c7] = some y) :
    ∃ (nm : ByteArray) (cash pl : Bool) (u least p c close : Int), c0 = .string nm ∧ c1 = .bool cash ∧ c2 = .bool pl ∧ c3 = .int .i64 u ∧ c4 = .int .i64 least ∧ c5 = .int .i64 p ∧ c6 = .int .i64 c ∧ c7 = .int .i64 close ∧
      (-9223372036854775808 ≤ u ∧ u ≤ 9223372036854775807) ∧ (-9223372036854775808 ≤ p ∧ p ≤ 9223372036854775807) ∧ (-9223372036854775808 ≤ c ∧ c ≤ 9223372036854775807) := by
  obtain ⟨ys, n', _, _, hlen, hyl, hf⟩ := DataW.trod_struct Try.underlying25 h
  have g : ∀ j, j < 8 → ∃ y, ys[j]? = some y := fun j hj => ⟨_, List.getElem?_eq_getElem (by rw [hyl]; exact hj)⟩
  obtain ⟨y0, e0⟩ := g 0 (by omega)
  obtain ⟨y1, e1⟩ := g 1 (by omega)
  obtain ⟨y2, e2⟩ := g 2 (by omega)
  obtain ⟨y3, e3⟩ := g 3 (by omega)
  obtain ⟨y4, e4⟩ := g 4 (by omega)
  obtain ⟨y5, e5⟩ := g 5 (by omega)
  obtain ⟨y6, e6⟩ := g 6 (by omega)
  obtain ⟨y7, e7⟩ := g 7 (by omega)
  have f0 : DataW.trod enc Try.prog w base spare held n' 9 (List.take (Try.prog.cellsOf 9) (List.drop 0 [c0, c1, c2, c3, c4, c5, c6, c7])) = some y0 := (hf 0 _ rfl).trans e0
  have f1 : DataW.trod enc Try.prog w base spare held n' 4 (List.take (Try.prog.cellsOf 4) (List.drop 1 [c0, c1, c2, c3, c4, c5, c6, c7])) = some y1 := (hf 1 _ rfl).trans e1
  have f2 : DataW.trod enc Try.prog w base spare held n' 4 (List.take (Try.prog.cellsOf 4) (List.drop 2 [c0, c1, c2, c3, c4, c5, c6, c7])) = some y2 := (hf 2 _ rfl).trans e2
  have f3 : DataW.trod enc Try.prog w base spare held n' 3 (List.take (Try.prog.cellsOf 3) (List.drop 3 [c0, c1, c2, c3, c4, c5, c6, c7])) = some y3 := (hf 3 _ rfl).trans e3
  have f4 : DataW.trod enc Try.prog w base spare held n' 3 (List.take (Try.prog.cellsOf 3) (List.drop 4 [c0, c1, c2, c3, c4, c5, c6, c7])) = some y4 := (hf 4 _ rfl).trans e4
  have f5 : DataW.trod enc Try.prog w base spare held n' 3 (List.take (Try.prog.cellsOf 3) (List.drop 5 [c0, c1, c2, c3, c4, c5, c6, c7])) = some y5 := (hf 5 _ rfl).trans e5
  have f6 : DataW.trod enc Try.prog w base spare held n' 3 (List.take (Try.prog.cellsOf 3) (List.drop 6 [c0, c1, c2, c3, c4, c5, c6, c7])) = some y6 := (hf 6 _ rfl).trans e6
  have f7 : DataW.trod enc Try.prog w base spare held n' 3 (List.take (Try.prog.cellsOf 3) (List.drop 7 [c0, c1, c2, c3, c4, c5, c6, c7])) = some y7 := (hf 7 _ rfl).trans e7
  simp only [cells_string, cells_int1, cells_bool1, List.drop, List.take] at f0 f1 f2 f3 f4 f5 f6 f7
  obtain ⟨nm, hnm, _, _⟩ := DataW.trod_string Try.underlying9 f0
  obtain ⟨cash, hcash, _⟩ := DataW.trod_bool Try.underlying4 f1
  obtain ⟨pl, hpl, _⟩ := DataW.trod_bool Try.underlying4 f2
  obtain ⟨u, hu, _, wu⟩ := DataW.trod_int Try.underlying3 f3
  obtain ⟨le, hle, _, _⟩ := DataW.trod_int Try.underlying3 f4
  obtain ⟨p, hp, _, wp⟩ := DataW.trod_int Try.underlying3 f5
  obtain ⟨c, hc, _, wc⟩ := DataW.trod_int Try.underlying3 f6
  obtain ⟨cl, hcl, _, _⟩ := DataW.trod_int Try.underlying3 f7
  simp only [List.cons.injEq, and_true] at hnm hcash hpl hu hle hp hc hcl
  exact ⟨nm, cash, pl, u, le, p, c, cl, hnm, hcash, hpl, hu, hle, hp, hc, hcl, bounds_i64 wu, bounds_i64 wp, bounds_i64 wc⟩
theorem open_stock {n : Nat} {cs : List Value} {y : DataW H × List MemPlace} (hl : cs.length = 9) (h : DataW.trod enc Try.prog w base spare held n 27 cs = some y) : ∃ x : Vl.St, cs = x.cells ∧ x.fits := by
  match cs, hl with
  | [c0, c1, c2, c3, c4, c5, c6, c7, c8], _ =>
    obtain ⟨ys, n', _, _, hlen, hyl, hf⟩ := DataW.trod_struct Try.underlying27 h
    have g : ∀ j, j < 2 → ∃ y, ys[j]? = some y := fun j hj => ⟨_, List.getElem?_eq_getElem (by rw [hyl]; exact hj)⟩
    obtain ⟨y0, e0⟩ := g 0 (by omega)
    obtain ⟨y1, e1⟩ := g 1 (by omega)
    have f0 : DataW.trod enc Try.prog w base spare held n' 25 (List.take (Try.prog.cellsOf 25) (List.drop 0 [c0, c1, c2, c3, c4, c5, c6, c7, c8])) = some y0 := (hf 0 _ rfl).trans e0
    have f1 : DataW.trod enc Try.prog w base spare held n' 3 (List.take (Try.prog.cellsOf 3) (List.drop 8 [c0, c1, c2, c3, c4, c5, c6, c7, c8])) = some y1 := (hf 1 _ rfl).trans e1
    simp only [cells_asset, cells_int1, List.drop, List.take] at f0 f1
    obtain ⟨nm, cash, pl, u, le, p, c, cl, rfl, rfl, rfl, rfl, rfl, rfl, rfl, rfl, b1, b2, b3⟩ := open_asset f0
    obtain ⟨q, hq, _, wq⟩ := DataW.trod_int Try.underlying3 f1
    simp only [List.cons.injEq, and_true] at hq
    subst hq
    exact ⟨⟨nm, cash, pl, u, le, p, c, cl, q⟩, rfl, b1, b2, b3, bounds_i64 wq⟩
end
/-- A slice of stocks that came in. -/
theorem open_stocks {H : Type} {enc : TypeId × Value → H} {W : World} {v : Value} {d : DataW H} {ps : List MemPlace}
    (hv : ∃ a n c, v = .slice a n c) (h : DataW.Trod enc Try.prog W 0 (fun _ => true) true 22 v d ps) (hlt : ∀ x ∈ ps, x.block < W.heap.size) :
    ∃ (A : Option Addr) (c : Nat) (l : List Vl.St), v = .slice A l.length c ∧ StsAt W W.heap.size A l ∧ l.length ≤ c ∧ l.length ≤ 9223372036854775807 ∧ ∀ x ∈ l, x.fits := by
  obtain ⟨a0, n0, c0, rfl⟩ := hv
  obtain ⟨fuel, hf⟩ := h
  rcases open_slice Try.underlying22 hf with ⟨hcs, hx⟩ | ⟨a, len, cap, m, n, D, Pl, hcs, _, hl, hm, hmm, hx, hi⟩
  · simp [Value.cells] at hcs
    obtain ⟨rfl, rfl, rfl⟩ := hcs
    exact ⟨none, 0, [], rfl, fun h => absurd h (by simp), Nat.le_refl _, by simp, by simp⟩
  · simp [Value.cells] at hcs
    obtain ⟨rfl, rfl, rfl⟩ := hcs
    simp only [if_true] at hmm
    unfold maxLen at hm
    have hall : ∀ i, i < n0 → ∃ x : Vl.St, x.fits ∧ ∀ j v, x.cells[j]? = some v → W.cell? ((a.add (i * 9)).add j) = some v := by
      intro i hin
      obtain ⟨cs', hc, ht'⟩ := hi i (by omega)
      rw [cells_stock] at hc
      obtain ⟨_, hcl, hat⟩ := World.cells?_some hc
      obtain ⟨x, rfl, hfx⟩ := open_stock hcl ht'
      refine ⟨x, hfx, fun j v hj => ?_⟩
      have hjl : j < 9 := (List.getElem?_eq_some_iff.1 hj).1
      rw [hat j hjl]
      exact hj
    have hex : ∃ l : List Vl.St, l.length = n0 ∧ ∀ i x, l[i]? = some x → x.fits ∧ ∀ j v, x.cells[j]? = some v → W.cell? ((a.add (i * 9)).add j) = some v := by
      clear hi hx hf hm hl
      induction n0 with
      | zero => exact ⟨[], rfl, fun i x hx => by simp at hx⟩
      | succ k ih =>
        obtain ⟨l, hl, hli⟩ := ih (fun i hi => hall i (by omega))
        obtain ⟨x, hx⟩ := hall k (by omega)
        refine ⟨l ++ [x], by simp [hl], fun i z hz => ?_⟩
        rcases Nat.lt_or_ge i l.length with h1 | h1
        · rw [List.getElem?_append_left h1] at hz
          exact hli i z hz
        · rw [List.getElem?_append_right h1] at hz
          have h2 : i - l.length = 0 := by
            rcases Nat.eq_zero_or_pos (i - l.length) with h2 | h2
            · exact h2
            · rw [List.getElem?_eq_none (by simp; omega)] at hz; cases hz
          rw [h2] at hz
          obtain rfl : x = z := by simpa using hz
          obtain rfl : i = k := by omega
          exact hx
    obtain ⟨l, hll, hli⟩ := hex
    refine ⟨some a, c0, l, by rw [hll], fun hn => ⟨a, rfl, ?_, fun k x hx => (hli k x hx).2⟩, by omega, by omega, fun x hx => ?_⟩
    · simp only [Prod.mk.injEq] at hx
      obtain ⟨_, rfl⟩ := hx
      rw [cells_stock] at hlt
      obtain ⟨p, hp, hpb⟩ := row_mem (ad := a) (n := m * 9) (by omega)
      rw [← hpb]
      exact hlt p (by simp [hp])
    · obtain ⟨i, hi9, hix⟩ := List.getElem_of_mem hx
      exact (hli i x (by rw [← hix]; exact List.getElem?_eq_getElem hi9)).1
end Go.Proofs.Ytiekolbkmgdfoaa
