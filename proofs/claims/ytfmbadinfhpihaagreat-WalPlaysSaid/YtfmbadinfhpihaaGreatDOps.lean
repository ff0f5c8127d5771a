/-
  An argument that is a slice of chapter 5's steps, opened; are the steps light.
  Conditions: the call's own.
-/
import Derived.Test.YtfmbadinfhpihaaGreatWords2
import Derived.ProofKit
import Derived.SliceStrings
import Derived.OpenShut
import Derived.Carry
import Derived.Test.YtfmbadinfhpihaaGreatRows
import Derived.ChangeSlices
import Derived.Test.YtfmbadinfhpihaaGreatBuilder
import Derived.Deep.Slices
import Derived.Deep.Fields
import Derived.ChangeSame
set_option linter.unusedVariables false
set_option linter.unusedSimpArgs false
namespace Go.Proofs.YtfmbadinfhpihaaGreat

theorem list_of {X : Type} {n : Nat} {Q : Nat → X → Prop} (hall : ∀ i, i < n → ∃ x, Q i x) : ∃ l : List X, l.length = n ∧ ∀ (i : Nat) (x : X), l[i]? = some x → Q i x := by
  induction n with
  | zero => exact ⟨[], rfl, fun i x hx => by simp at hx⟩
  | succ k ih =>
    obtain ⟨l, hl, hli⟩ := ih (fun i hi => hall i (by omega))
    obtain ⟨x, hx⟩ := hall k (by omega)
    refine ⟨l ++ [x], by simp [hl], fun i z hz => ?_⟩
    rcases Nat.lt_or_ge i l.length with h1 | h1
    · rw [List.getElem?_append_left h1] at hz
      exact hli i z hz
    · rw [List.getElem?_append_right h1] at hz
      have h2 : i - l.length = 0 := by
        rcases Nat.eq_zero_or_pos (i - l.length) with h2 | h2
        · exact h2
        · rw [List.getElem?_eq_none (by simp; omega)] at hz; cases hz
      rw [h2] at hz
      obtain rfl : x = z := by simpa using hz
      obtain rfl : i = k := by omega
      exact hx
end Go.Proofs.YtfmbadinfhpihaaGreat
namespace Go.Proofs.YtfmbadinfhpihaaGreat
open Go.ChangeShapes Go.WideShapes Go.ChangeAt Go.RowKit

theorem own_knob : ownKnob Tryz.prog.godebug = none := by kernel_rfl
theorem laid_out : laidOutB Tryz.prog = true := by kernel_rfl

theorem trodAll_below {H : Type} {enc : TypeId × Value → H} {P : Program} (hl : laidOutB P = true) {W W' : World} (hb : Below W.heap.size W W') :
    ∀ (ts : List TypeId) (vs : List Value) (ds : List (DataW H)) (ps : List MemPlace), (ts.all fun t => P.readableRec t && decide (t < P.types.size)) = true →
      DataW.TrodAll enc P W 0 (fun _ => true) true ts vs ds ps → (∀ x ∈ ps, x.block < W.heap.size) → DataW.TrodAll enc P W' 0 (fun b => decide (b < W.heap.size)) true ts vs ds ps
  | [], _, _, _, _, h, _ => by
    obtain ⟨rfl, rfl, rfl⟩ := trodAll_nil h
    exact rfl
  | t :: ts, vs, ds, ps, hr, h, hlt => by
    obtain ⟨v, vs', d, ds', p, q, rfl, rfl, rfl, h1, h2⟩ := trodAll_cons h
    simp only [List.all_cons, Bool.and_eq_true, decide_eq_true_eq] at hr
    exact trodAll_cons_mk (Below.trod hl hr.1.1 hr.1.2 h1 hb fun x hx => hlt x (by simp [hx])) (trodAll_below hl hb ts vs' ds' q hr.2 h2 fun x hx => hlt x (by simp [hx]))

/-- The end of each law: it returned true, and nothing that was there has turned. -/
theorem law_post {H : Type} {enc : TypeId × Value → H} (f : Func) (s : ChangeSpec) (hf : f.resultTypes = #[4]) (hs : s.vars = [])
    (hread : (f.params.toList.all fun t => Tryz.prog.readableRec t && decide (t < Tryz.prog.types.size)) = true)
    {W W' : World} {args : Array Value} {ds : List (DataW H)} {before : List MemPlace}
    (hW : DataW.Whole enc Tryz.prog f.params.toList s.vars false W args.toList ds [] before)
    (hA : DataW.TrodAll enc Tryz.prog W 0 (fun _ => true) true f.params.toList args.toList ds before)
    (hres : (s.fn H (ds ++ [])).results = [.lit (.bool true)]) (hargs : (s.fn H (ds ++ [])).args = ds) (hvars : (s.fn H (ds ++ [])).vars = [])
    (hb : Below W.heap.size W W') :
    s.post enc Tryz.prog f false true false false W args (.bool true) W' := by
  have hlt : ∀ x ∈ before, x.block < W.heap.size := fun x hx => hW.lt x hx
  refine ⟨ds, [], before, [], before, [], hW, ?_, ?_, ?_, hb.frame _, fun h => by cases h⟩
  · rw [hres, hf]
    exact trodAll_mk1 (shut_bool Tryz.underlying4 true)
  · rw [hargs]
    exact trodAll_below laid_out hb _ _ _ _ hread hA hlt
  · rw [hvars, hs]
    rfl

theorem row_mem {ad : Addr} {n : Nat} (h : 0 < n) : ∃ p ∈ MemPlace.row ad n, p.block = ad.block :=
  ⟨.cell ad.block ad.off, MemPlace.mem_row.2 ⟨0, h, by simp⟩, rfl⟩

/-- A slice of texts that came in. -/
theorem open_texts {H : Type} {enc : TypeId × Value → H} {P : Program} {W : World} {t e : TypeId} {v : Value} {d : DataW H} {ps : List MemPlace} (ht : P.underlying t = some (.slice e)) (he : P.underlying e = some .string) (hc : P.cellsOf e = 1)
    (hv : ∃ a n c, v = .slice a n c) (h : DataW.Trod enc P W 0 (fun _ => true) true t v d ps) (hlt : ∀ x ∈ ps, x.block < W.heap.size) :
    ∃ (A : Option Addr) (c : Nat) (ss : List ByteArray), v = .slice A ss.length c ∧ Reads W W.heap.size 1 A ss.length (strs ss) ∧ ss.length ≤ c ∧ ss.length ≤ 9223372036854775807 ∧ ∀ s ∈ ss, s.size ≤ 9223372036854775807 := by
  obtain ⟨a0, n0, c0, rfl⟩ := hv
  obtain ⟨fuel, hf⟩ := h
  rcases open_strings ht he hc hf with ⟨hcs, hx⟩ | ⟨a, len, cap, ss, hcs, _, hl, hm, hz, hx, hcell, hws⟩
  · simp [Value.cells] at hcs
    obtain ⟨rfl, rfl, rfl⟩ := hcs
    exact ⟨none, 0, [], rfl, Reads.none_, Nat.le_refl _, by simp, by simp⟩
  · simp [Value.cells] at hcs
    obtain ⟨rfl, rfl, rfl⟩ := hcs
    simp only [Prod.mk.injEq] at hx
    obtain ⟨_, rfl⟩ := hx
    simp only [if_true] at hz
    unfold maxLen at hm
    have e1 : (ss.take n0).length = n0 := by rw [List.length_take]; omega
    refine ⟨some a, c0, ss.take n0, by rw [e1], ?_, by rw [e1]; exact hl, by rw [e1]; omega, fun s hs => hws s (List.mem_of_mem_take hs)⟩
    rw [e1]
    refine ⟨by rw [strs_len, e1]; omega, fun hn => ⟨a, rfl, ?_, fun j u hu => ?_⟩⟩
    · obtain ⟨p, hp, hpb⟩ := row_mem (ad := a) (n := ss.length) (by omega)
      rw [← hpb]
      exact hlt p hp
    · simp only [strs, List.getElem?_map, List.getElem?_take, Option.map_eq_some_iff] at hu
      obtain ⟨s, hs, rfl⟩ := hu
      split at hs
      · have hj := (List.getElem?_eq_some_iff.1 hs).1
        rw [hcell j hj, List.getD_eq_getElem?_getD, hs]
        rfl
      · cases hs
/-- Five arguments. -/
theorem trodAll_five {H : Type} {enc : TypeId × Value → H} {P : Program} {w : World} {base : Nat} {spare : Nat → Bool} {held : Bool} {t0 t1 t2 t3 t4 : TypeId} {args : Array Value} {ds : List (DataW H)} {ps : List MemPlace}
    (h : DataW.TrodAll enc P w base spare held [t0, t1, t2, t3, t4] args.toList ds ps) :
    ∃ v0 v1 v2 v3 v4 d0 d1 d2 d3 d4 p0 p1 p2 p3 p4, args = #[v0, v1, v2, v3, v4] ∧ ds = [d0, d1, d2, d3, d4] ∧ ps = p0 ++ (p1 ++ (p2 ++ (p3 ++ p4))) ∧ DataW.Trod enc P w base spare held t0 v0 d0 p0 ∧
      DataW.Trod enc P w base spare held t1 v1 d1 p1 ∧ DataW.Trod enc P w base spare held t2 v2 d2 p2 ∧ DataW.Trod enc P w base spare held t3 v3 d3 p3 ∧ DataW.Trod enc P w base spare held t4 v4 d4 p4 := by
  obtain ⟨v0, r0, d0, e0, p0, q0, ha, rfl, rfl, h0, hr⟩ := trodAll_cons h
  obtain ⟨v1, v2, v3, v4, d1, d2, d3, d4, p1, p2, p3, p4, hb, rfl, rfl, h1, h2, h3, h4⟩ := trodAll_four (args := r0.toArray) (by simpa using hr)
  have hr0 : r0 = [v1, v2, v3, v4] := by have := congrArg Array.toList hb; simpa using this
  subst hr0
  exact ⟨v0, v1, v2, v3, v4, d0, d1, d2, d3, d4, p0, p1, p2, p3, p4, by cases args; simp_all, rfl, by simp, h0, h1, h2, h3, h4⟩
theorem cells_string : Tryz.prog.cellsOf 9 = 1 := by kernel_rfl
end Go.Proofs.YtfmbadinfhpihaaGreat
namespace Go.Proofs.YtfmbadinfhpihaaGreat
open Go.ChangeShapes Go.WideShapes Go.ChangeAt Go.RowKit

/-- A slice of ints that came in. -/
theorem open_intsA {H : Type} {enc : TypeId × Value → H} {P : Program} {W : World} {t e : TypeId} {v : Value} {d : DataW H} {ps : List MemPlace} (ht : P.underlying t = some (.slice e)) (he : P.underlying e = some (.int .i64)) (hc : P.cellsOf e = 1)
    (hv : ∃ a n c, v = .slice a n c) (h : DataW.Trod enc P W 0 (fun _ => true) true t v d ps) (hlt : ∀ x ∈ ps, x.block < W.heap.size) :
    ∃ (A : Option Addr) (c : Nat) (ss : List Int), v = .slice A ss.length c ∧ Reads W W.heap.size 1 A ss.length (ints ss) ∧ ss.length ≤ c ∧ ss.length ≤ 9223372036854775807 ∧ ∀ v ∈ ss, -9223372036854775808 ≤ v ∧ v ≤ 9223372036854775807 := by
  obtain ⟨a0, n0, c0, rfl⟩ := hv
  obtain ⟨fuel, hf⟩ := h
  rcases open_ints ht he hc hf with ⟨hcs, hx⟩ | ⟨a, len, cap, ss, hcs, _, hl, hm, hz, hx, hcell, hws⟩
  · simp [Value.cells] at hcs
    obtain ⟨rfl, rfl, rfl⟩ := hcs
    exact ⟨none, 0, [], rfl, Reads.none_, Nat.le_refl _, by simp, by simp⟩
  · simp [Value.cells] at hcs
    obtain ⟨rfl, rfl, rfl⟩ := hcs
    simp only [Prod.mk.injEq] at hx
    obtain ⟨_, rfl⟩ := hx
    simp only [if_true] at hz
    unfold maxLen at hm
    have e1 : (ss.take n0).length = n0 := by rw [List.length_take]; omega
    refine ⟨some a, c0, ss.take n0, by rw [e1], ?_, by rw [e1]; exact hl, by rw [e1]; omega, fun s hs => bounds_i64 (hws s (List.mem_of_mem_take hs))⟩
    rw [e1]
    refine ⟨by rw [ints_len, e1]; omega, fun hn => ⟨a, rfl, ?_, fun j u hu => ?_⟩⟩
    · obtain ⟨p, hp, hpb⟩ := row_mem (ad := a) (n := ss.length) (by omega)
      rw [← hpb]
      exact hlt p hp
    · simp only [ints, List.getElem?_map, List.getElem?_take, Option.map_eq_some_iff] at hu
      obtain ⟨s, hs, rfl⟩ := hu
      split at hs
      · have hj := (List.getElem?_eq_some_iff.1 hs).1
        rw [hcell j hj, List.getD_eq_getElem?_getD, hs]
        rfl
      · cases hs
theorem cells_int : Tryz.prog.cellsOf 3 = 1 := by kernel_rfl
end Go.Proofs.YtfmbadinfhpihaaGreat
namespace Go.Proofs.YtfmbadinfhpihaaGreat
open Go.ChangeShapes Go.WideShapes Go.ChangeAt Go.RowKit Go.Deep
set_option maxRecDepth 100000

/-- A step. -/
structure DOp where
  kind : Int
  num : Int
  a : ByteArray
  b : ByteArray
  la : Option Addr
  ln : Nat
  lc : Nat
def DOp.cells (x : DOp) : List Value := [.int .i64 x.kind, .int .i64 x.num, .string x.a, .string x.b, .slice x.la x.ln x.lc]
def DOp.Fits (x : DOp) : Prop := (-9223372036854775808 ≤ x.kind ∧ x.kind ≤ 9223372036854775807) ∧ x.a.size ≤ 9223372036854775807 ∧ x.b.size ≤ 9223372036854775807 ∧ x.ln ≤ 9223372036854775807
/-- Steps in memory. -/
def OpsAt (w : World) (B : Nat) (A : Option Addr) (l : List DOp) : Prop :=
  0 < l.length → ∃ ad, A = some ad ∧ ad.block < B ∧ ∀ k x, l[k]? = some x → ∀ j v, x.cells[j]? = some v → w.cell? ((ad.add (k * 5)).add j) = some v
theorem OpsAt.below {w w' : World} {B : Nat} {A : Option Addr} {l : List DOp} (h : OpsAt w B A l) (hb : Below B w w') : OpsAt w' B A l := fun hn => by
  obtain ⟨ad, e, hB, hc⟩ := h hn
  exact ⟨ad, e, hB, fun k x hx j v hv => (hb.cell (by rw [block_of_add, block_of_add]; exact hB)).trans (hc k x hx j v hv)⟩
theorem OpsAt.at_ {w : World} {B : Nat} {A : Option Addr} {l : List DOp} (h : OpsAt w B A l) {k : Nat} (hk : k < l.length) :
    ∃ ad x, A = some ad ∧ ad.block < B ∧ l[k]? = some x ∧ ∀ j v, x.cells[j]? = some v → w.cell? ((ad.add (k * 5)).add j) = some v := by
  obtain ⟨ad, e, hB, hc⟩ := h (by omega)
  exact ⟨ad, l[k], e, hB, List.getElem?_eq_getElem hk, hc k _ (List.getElem?_eq_getElem hk)⟩
theorem cells_op : Tryz.prog.cellsOf 62 = 5 := by kernel_rfl
theorem cells_int1 : Tryz.prog.cellsOf 3 = 1 := by kernel_rfl
theorem cells_ints1 : Tryz.prog.cellsOf 50 = 1 := by kernel_rfl
theorem cells_str1 : Tryz.prog.cellsOf 9 = 1 := by kernel_rfl
section
variable {H : Type} {enc : TypeId × Value → H} {w : World} {base : Nat} {spare : Nat → Bool} {held : Bool}
theorem open_dop {n : Nat} {cs : List Value} {y : DataW H × List MemPlace} (hl : cs.length = 5) (h : DataW.trod enc Tryz.prog w base spare held n 62 cs = some y) : ∃ x : DOp, cs = x.cells ∧ x.Fits := by
  match cs, hl with
  | [c0, c1, c2, c3, c4], _ =>
    obtain ⟨ys, n', _, _, hlen, hyl, hf⟩ := DataW.trod_struct Tryz.underlying62 h
    have g : ∀ j, j < 5 → ∃ y, ys[j]? = some y := fun j hj => ⟨_, List.getElem?_eq_getElem (by rw [hyl]; exact hj)⟩
    obtain ⟨y0, e0⟩ := g 0 (by omega)
    obtain ⟨y1, e1⟩ := g 1 (by omega)
    obtain ⟨y2, e2⟩ := g 2 (by omega)
    obtain ⟨y3, e3⟩ := g 3 (by omega)
    obtain ⟨y4, e4⟩ := g 4 (by omega)
    have f0 : DataW.trod enc Tryz.prog w base spare held n' 3 (List.take (Tryz.prog.cellsOf 3) (List.drop 0 [c0, c1, c2, c3, c4])) = some y0 := (hf 0 _ rfl).trans e0
    have f1 : DataW.trod enc Tryz.prog w base spare held n' 3 (List.take (Tryz.prog.cellsOf 3) (List.drop 1 [c0, c1, c2, c3, c4])) = some y1 := (hf 1 _ rfl).trans e1
    have f2 : DataW.trod enc Tryz.prog w base spare held n' 9 (List.take (Tryz.prog.cellsOf 9) (List.drop 2 [c0, c1, c2, c3, c4])) = some y2 := (hf 2 _ rfl).trans e2
    have f3 : DataW.trod enc Tryz.prog w base spare held n' 9 (List.take (Tryz.prog.cellsOf 9) (List.drop 3 [c0, c1, c2, c3, c4])) = some y3 := (hf 3 _ rfl).trans e3
    have f4 : DataW.trod enc Tryz.prog w base spare held n' 50 (List.take (Tryz.prog.cellsOf 50) (List.drop 4 [c0, c1, c2, c3, c4])) = some y4 := (hf 4 _ rfl).trans e4
    simp only [cells_str1, cells_int1, cells_ints1, List.drop, List.take] at f0 f1 f2 f3 f4
    obtain ⟨k, hk, _, wk⟩ := DataW.trod_int Tryz.underlying3 f0
    obtain ⟨u, hu, _, wu⟩ := DataW.trod_int Tryz.underlying3 f1
    obtain ⟨a, ha, _, wa⟩ := DataW.trod_string Tryz.underlying9 f2
    obtain ⟨b, hb, _, wb⟩ := DataW.trod_string Tryz.underlying9 f3
    have hs : ∃ (la : Option Addr) (ln lc : Nat), c4 = .slice la ln lc ∧ ln ≤ 9223372036854775807 := by
      rcases open_slice Tryz.underlying50 f4 with ⟨hcs, _⟩ | ⟨a, len, cap, m, n, D, Pl, hcs, _, hl, hm, _⟩
      · simp only [List.cons.injEq, and_true] at hcs
        exact ⟨none, 0, 0, hcs, by decide⟩
      · simp only [List.cons.injEq, and_true] at hcs
        unfold maxLen at hm
        exact ⟨some a, len, cap, hcs, by omega⟩
    obtain ⟨la, ln, lc, rfl, hln⟩ := hs
    simp only [List.cons.injEq, and_true] at hk hu ha hb
    subst hk hu ha hb
    exact ⟨⟨k, u, a, b, la, ln, lc⟩, rfl, bounds_i64 wk, wa, wb, hln⟩
end
/-- A slice of steps that came in. -/
theorem open_dops {H : Type} {enc : TypeId × Value → H} {W : World} {v : Value} {d : DataW H} {ps : List MemPlace}
    (hv : ∃ a n c, v = .slice a n c) (h : DataW.Trod enc Tryz.prog W 0 (fun _ => true) true 55 v d ps) (hlt : ∀ x ∈ ps, x.block < W.heap.size) :
    ∃ (A : Option Addr) (c : Nat) (l : List DOp), v = .slice A l.length c ∧ OpsAt W W.heap.size A l ∧ l.length ≤ c ∧ l.length ≤ 9223372036854775807 ∧ ∀ x ∈ l, x.Fits := by
  obtain ⟨a0, n0, c0, rfl⟩ := hv
  obtain ⟨fuel, hf⟩ := h
  rcases open_slice Tryz.underlying55 hf with ⟨hcs, hx⟩ | ⟨a, len, cap, m, n, D, Pl, hcs, _, hl, hm, hmm, hx, hi⟩
  · simp [Value.cells] at hcs
    obtain ⟨rfl, rfl, rfl⟩ := hcs
    exact ⟨none, 0, [], rfl, fun h => absurd h (by simp), Nat.le_refl _, by simp, by simp⟩
  · simp [Value.cells] at hcs
    obtain ⟨rfl, rfl, rfl⟩ := hcs
    simp only [if_true] at hmm
    unfold maxLen at hm
    obtain ⟨l, hll, hli⟩ := list_of (n := n0) (Q := fun i (x : DOp) => x.Fits ∧ ∀ j v, x.cells[j]? = some v → W.cell? ((a.add (i * 5)).add j) = some v) (by
      intro i hin
      obtain ⟨cs', hc, ht'⟩ := hi i (by omega)
      rw [cells_op] at hc
      obtain ⟨_, hcl, hat⟩ := World.cells?_some hc
      obtain ⟨x, rfl, hfx⟩ := open_dop hcl ht'
      refine ⟨x, hfx, fun j v hj => ?_⟩
      have hjl : j < 5 := (List.getElem?_eq_some_iff.1 hj).1
      rw [hat j hjl]
      exact hj)
    refine ⟨some a, c0, l, by rw [hll], fun hn => ⟨a, rfl, ?_, fun k x hx => (hli k x hx).2⟩, by omega, by omega, fun x hx => ?_⟩
    · simp only [Prod.mk.injEq] at hx
      obtain ⟨_, rfl⟩ := hx
      rw [cells_op] at hlt
      obtain ⟨p, hp, hpb⟩ := row_mem (ad := a) (n := m * 5) (by omega)
      rw [← hpb]
      exact hlt p (by simp [hp])
    · obtain ⟨i, hi9, hix⟩ := List.getElem_of_mem hx
      exact (hli i x (by rw [← hix]; exact List.getElem?_eq_getElem hi9)).1
end Go.Proofs.YtfmbadinfhpihaaGreat
