/-
  An argument that is a term, opened.
  Conditions: the call's own.
-/
import Derived.Test.YtkcecijepbceiaaHold
import Derived.Test.YtkcecijepbceiaaTrm12
import Derived.Deep.Slices
import Derived.Deep.Fields
import Derived.ChangeSame
namespace Go.Proofs.Ytkcecijepbceiaa
open Go.ChangeShapes Go.WideShapes Go.ChangeAt Go.RowKit Go.Deep
set_option maxRecDepth 100000

theorem cells_int1 : Try.prog.cellsOf 3 = 1 := by kernel_rfl
theorem cells_bool1 : Try.prog.cellsOf 4 = 1 := by kernel_rfl
theorem cells_term : Try.prog.cellsOf 23 = 12 := by kernel_rfl
section
variable {H : Type} {enc : TypeId × Value → H} {w : World} {base : Nat} {spare : Nat → Bool} {held : Bool}
theorem open_term {n : Nat} {cs : List Value} {y : DataW H × List MemPlace} (hl : cs.length = 12) (h : DataW.trod enc Try.prog w base spare held n 23 cs = some y) : ∃ x : Trm, cs = x.cells.toList ∧ x.Fits := by
  match cs, hl with
  | [c0, c1, c2, c3, c4, c5, c6, c7, c8, c9, c10, c11], _ =>
    obtain ⟨ys, n', _, _, hlen, hyl, hf⟩ := DataW.trod_struct Try.underlying23 h
    have g : ∀ j, j < 12 → ∃ y, ys[j]? = some y := fun j hj => ⟨_, List.getElem?_eq_getElem (by rw [hyl]; exact hj)⟩
    obtain ⟨y0, e0⟩ := g 0 (by omega)
    obtain ⟨y1, e1⟩ := g 1 (by omega)
    obtain ⟨y2, e2⟩ := g 2 (by omega)
    obtain ⟨y3, e3⟩ := g 3 (by omega)
    obtain ⟨y4, e4⟩ := g 4 (by omega)
    obtain ⟨y5, e5⟩ := g 5 (by omega)
    obtain ⟨y6, e6⟩ := g 6 (by omega)
    obtain ⟨y7, e7⟩ := g 7 (by omega)
    obtain ⟨y8, e8⟩ := g 8 (by omega)
    obtain ⟨y9, e9⟩ := g 9 (by omega)
    obtain ⟨y10, e10⟩ := g 10 (by omega)
    obtain ⟨y11, e11⟩ := g 11 (by omega)
    have f0 : DataW.trod enc Try.prog w base spare held n' 9 (List.take (Try.prog.cellsOf 9) (List.drop 0 [c0, c1, c2, c3, c4, c5, c6, c7, c8, c9, c10, c11])) = some y0 := (hf 0 _ rfl).trans e0
    have f1 : DataW.trod enc Try.prog w base spare held n' 9 (List.take (Try.prog.cellsOf 9) (List.drop 1 [c0, c1, c2, c3, c4, c5, c6, c7, c8, c9, c10, c11])) = some y1 := (hf 1 _ rfl).trans e1
    have f2 : DataW.trod enc Try.prog w base spare held n' 9 (List.take (Try.prog.cellsOf 9) (List.drop 2 [c0, c1, c2, c3, c4, c5, c6, c7, c8, c9, c10, c11])) = some y2 := (hf 2 _ rfl).trans e2
    have f3 : DataW.trod enc Try.prog w base spare held n' 9 (List.take (Try.prog.cellsOf 9) (List.drop 3 [c0, c1, c2, c3, c4, c5, c6, c7, c8, c9, c10, c11])) = some y3 := (hf 3 _ rfl).trans e3
    have f4 : DataW.trod enc Try.prog w base spare held n' 4 (List.take (Try.prog.cellsOf 4) (List.drop 4 [c0, c1, c2, c3, c4, c5, c6, c7, c8, c9, c10, c11])) = some y4 := (hf 4 _ rfl).trans e4
    have f5 : DataW.trod enc Try.prog w base spare held n' 9 (List.take (Try.prog.cellsOf 9) (List.drop 5 [c0, c1, c2, c3, c4, c5, c6, c7, c8, c9, c10, c11])) = some y5 := (hf 5 _ rfl).trans e5
    have f6 : DataW.trod enc Try.prog w base spare held n' 9 (List.take (Try.prog.cellsOf 9) (List.drop 6 [c0, c1, c2, c3, c4, c5, c6, c7, c8, c9, c10, c11])) = some y6 := (hf 6 _ rfl).trans e6
    have f7 : DataW.trod enc Try.prog w base spare held n' 9 (List.take (Try.prog.cellsOf 9) (List.drop 7 [c0, c1, c2, c3, c4, c5, c6, c7, c8, c9, c10, c11])) = some y7 := (hf 7 _ rfl).trans e7
    have f8 : DataW.trod enc Try.prog w base spare held n' 3 (List.take (Try.prog.cellsOf 3) (List.drop 8 [c0, c1, c2, c3, c4, c5, c6, c7, c8, c9, c10, c11])) = some y8 := (hf 8 _ rfl).trans e8
    have f9 : DataW.trod enc Try.prog w base spare held n' 3 (List.take (Try.prog.cellsOf 3) (List.drop 9 [c0, c1, c2, c3, c4, c5, c6, c7, c8, c9, c10, c11])) = some y9 := (hf 9 _ rfl).trans e9
    have f10 : DataW.trod enc Try.prog w base spare held n' 3 (List.take (Try.prog.cellsOf 3) (List.drop 10 [c0, c1, c2, c3, c4, c5, c6, c7, c8, c9, c10, c11])) = some y10 := (hf 10 _ rfl).trans e10
    have f11 : DataW.trod enc Try.prog w base spare held n' 3 (List.take (Try.prog.cellsOf 3) (List.drop 11 [c0, c1, c2, c3, c4, c5, c6, c7, c8, c9, c10, c11])) = some y11 := (hf 11 _ rfl).trans e11
    simp only [cells_string, cells_int1, cells_bool1, List.drop, List.take] at f0 f1 f2 f3 f4 f5 f6 f7 f8 f9 f10 f11
    obtain ⟨p, h0, _, w0⟩ := DataW.trod_string Try.underlying9 f0
    obtain ⟨a, h1, _, w1⟩ := DataW.trod_string Try.underlying9 f1
    obtain ⟨m, h2, _, w2⟩ := DataW.trod_string Try.underlying9 f2
    obtain ⟨o, h3, _, w3⟩ := DataW.trod_string Try.underlying9 f3
    obtain ⟨dl, h4, _⟩ := DataW.trod_bool Try.underlying4 f4
    obtain ⟨ss, h5, _, w5⟩ := DataW.trod_string Try.underlying9 f5
    obtain ⟨c, h6, _, w6⟩ := DataW.trod_string Try.underlying9 f6
    obtain ⟨r, h7, _, w7⟩ := DataW.trod_string Try.underlying9 f7
    obtain ⟨q, h8, _, w8⟩ := DataW.trod_int Try.underlying3 f8
    obtain ⟨am, h9, _, w9⟩ := DataW.trod_int Try.underlying3 f9
    obtain ⟨dy, h10, _, w10⟩ := DataW.trod_int Try.underlying3 f10
    obtain ⟨td, h11, _, w11⟩ := DataW.trod_int Try.underlying3 f11
    simp only [List.cons.injEq, and_true] at h0 h1 h2 h3 h4 h5 h6 h7 h8 h9 h10 h11
    subst h0 h1 h2 h3 h4 h5 h6 h7 h8 h9 h10 h11
    refine ⟨⟨p, a, m, o, dl, ss, c, r, q, am, dy, td⟩, rfl, fun t ht => ?_, fun v hv => ?_⟩
    · unfold maxLen at w0 w1 w2 w3 w5 w6 w7
      simp only [Trm.texts, List.mem_cons, List.not_mem_nil, or_false] at ht
      rcases ht with rfl | rfl | rfl | rfl | rfl | rfl | rfl <;> assumption
    · simp only [Trm.nums, List.mem_cons, List.not_mem_nil, or_false] at hv
      rcases hv with rfl | rfl | rfl | rfl
      · exact bounds_i64 w8
      · exact bounds_i64 w9
      · exact bounds_i64 w10
      · exact bounds_i64 w11
end
theorem open_trm {H : Type} {enc : TypeId × Value → H} {W : World} {base : Nat} {v : Value} {d : DataW H} {ps : List MemPlace}
    (hv : Value.okWide Try.prog W .any base 23 v) (h : DataW.Trod enc Try.prog W 0 (fun _ => true) true 23 v d ps) : ∃ x : Trm, v = .agg x.cells ∧ x.Fits := by
  obtain ⟨cs, rfl, hsz⟩ := okWide_struct Try.underlying23 hv
  obtain ⟨fuel, hf⟩ := h
  rw [cells_term] at hsz
  have hf2 : DataW.trod enc Try.prog W 0 (fun _ => true) true fuel 23 cs.toList = some (d, ps) := hf
  obtain ⟨x, hx, hfx⟩ := open_term (by rw [Array.length_toList]; exact hsz) hf2
  refine ⟨x, ?_, hfx⟩
  rw [show cs = x.cells from Array.ext' hx]
end Go.Proofs.Ytkcecijepbceiaa
