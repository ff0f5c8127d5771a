/-
 The steps of chapter 9's great statement: each is done at the program's data and at the document's, and both tell the same.
 Conditions: each lemma's own premises.
-/
import Derived.ProofKit
import Derived.SliceStrings
import Derived.OpenShut
import Derived.Carry
import Derived.Test.YtnpkplegeddhcaaGreatWords2
import Derived.Test.YtnpkplegeddhcaaGreatRows
import Derived.Test.YtnpkplegeddhcaaGreatRef2
import Derived.Deep.Slices
import Derived.Deep.Fields
import Derived.ChangeSame
import Derived.Deep.Grids
import Derived.Test.YtnpkplegeddhcaaGreatRpY
namespace Go.Proofs.YtnpkplegeddhcaaGreat
open Go.ChangeShapes Go.WideShapes Go.ChangeAt Go.RowKit

theorem own_knob : ownKnob Tryz.prog.godebug = none := by kernel_rfl
theorem laid_out : laidOutB Tryz.prog = true := by kernel_rfl

theorem trodAll_below {H : Type} {enc : TypeId × Value → H} {P : Program} (hl : laidOutB P = true) {W W' : World} (hb : Below W.heap.size W W') :
  ∀ (ts : List TypeId) (vs : List Value) (ds : List (DataW H)) (ps : List MemPlace), (ts.all fun t => P.readableRec t && decide (t < P.types.size)) = true →
   DataW.TrodAll enc P W 0 (fun _ => true) true ts vs ds ps → (∀ x ∈ ps, x.block < W.heap.size) → DataW.TrodAll enc P W' 0 (fun b => decide (b < W.heap.size)) true ts vs ds ps
 | [], _, _, _, _, h, _ => by
  obtain ⟨rfl, rfl, rfl⟩ := trodAll_nil h
  exact rfl
 | t :: ts, vs, ds, ps, hr, h, hlt => by
  obtain ⟨v, vs', d, ds', p, q, rfl, rfl, rfl, h1, h2⟩ := trodAll_cons h
  simp only [List.all_cons, Bool.and_eq_true, decide_eq_true_eq] at hr
  exact trodAll_cons_mk (Below.trod hl hr.1.1 hr.1.2 h1 hb fun x hx => hlt x (by simp [hx])) (trodAll_below hl hb ts vs' ds' q hr.2 h2 fun x hx => hlt x (by simp [hx]))

/-- The end of each law: it returned true, and nothing that was there has turned. -/
theorem law_post {H : Type} {enc : TypeId × Value → H} (f : Func) (s : ChangeSpec) (hf : f.resultTypes = #[4]) (hs : s.vars = [])
  (hread : (f.params.toList.all fun t => Tryz.prog.readableRec t && decide (t < Tryz.prog.types.size)) = true)
  {W W' : World} {args : Array Value} {ds : List (DataW H)} {before : List MemPlace}
  (hW : DataW.Whole enc Tryz.prog f.params.toList s.vars false W args.toList ds [] before)
  (hA : DataW.TrodAll enc Tryz.prog W 0 (fun _ => true) true f.params.toList args.toList ds before)
  (hres : (s.fn H (ds ++ [])).results = [.lit (.bool true)]) (hargs : (s.fn H (ds ++ [])).args = ds) (hvars : (s.fn H (ds ++ [])).vars = [])
  (hb : Below W.heap.size W W') :
  s.post enc Tryz.prog f false true false false W args (.bool true) W' := by
 have hlt : ∀ x ∈ before, x.block < W.heap.size := fun x hx => hW.lt x hx
 refine ⟨ds, [], before, [], before, [], hW, ?_, ?_, ?_, hb.frame _, fun h => by cases h⟩
 ·rw [hres, hf]
  exact trodAll_mk1 (shut_bool Tryz.underlying4 true)
 ·rw [hargs]
  exact trodAll_below laid_out hb _ _ _ _ hread hA hlt
 ·rw [hvars, hs]
  rfl

theorem row_mem {ad : Addr} {n : Nat} (h : 0 < n) : ∃ p ∈ MemPlace.row ad n, p.block = ad.block :=
 ⟨.cell ad.block ad.off, MemPlace.mem_row.2 ⟨0, h, by simp⟩, rfl⟩

/-- A slice of texts that came in. -/
theorem open_texts {H : Type} {enc : TypeId × Value → H} {P : Program} {W : World} {t e : TypeId} {v : Value} {d : DataW H} {ps : List MemPlace} (ht : P.underlying t = some (.slice e)) (he : P.underlying e = some .string) (hc : P.cellsOf e = 1)
  (hv : ∃ a n c, v = .slice a n c) (h : DataW.Trod enc P W 0 (fun _ => true) true t v d ps) (hlt : ∀ x ∈ ps, x.block < W.heap.size) :
  ∃ (A : Option Addr) (c : Nat) (ss : List ByteArray), v = .slice A ss.length c ∧ Reads W W.heap.size 1 A ss.length (strs ss) ∧ ss.length ≤ c ∧ ss.length ≤ 9223372036854775807 ∧ ∀ s ∈ ss, s.size ≤ 9223372036854775807 := by
 obtain ⟨a0, n0, c0, rfl⟩ := hv
 obtain ⟨fuel, hf⟩ := h
 rcases open_strings ht he hc hf with ⟨hcs, hx⟩ | ⟨a, len, cap, ss, hcs, _, hl, hm, hz, hx, hcell, hws⟩
 ·simp [Value.cells] at hcs
  obtain ⟨rfl, rfl, rfl⟩ := hcs
  exact ⟨none, 0, [], rfl, Reads.none_, Nat.le_refl _, by simp, by simp⟩
 ·simp [Value.cells] at hcs
  obtain ⟨rfl, rfl, rfl⟩ := hcs
  simp only [Prod.mk.injEq] at hx
  obtain ⟨_, rfl⟩ := hx
  simp only [if_true] at hz
  unfold maxLen at hm
  have e1 : (ss.take n0).length = n0 := by rw [List.length_take]; omega
  refine ⟨some a, c0, ss.take n0, by rw [e1], ?_, by rw [e1]; exact hl, by rw [e1]; omega, fun s hs => hws s (List.mem_of_mem_take hs)⟩
  rw [e1]
  refine ⟨by rw [strs_len, e1]; omega, fun hn => ⟨a, rfl, ?_, fun j u hu => ?_⟩⟩
  ·obtain ⟨p, hp, hpb⟩ := row_mem (ad := a) (n := ss.length) (by omega)
   rw [← hpb]
   exact hlt p hp
  ·simp only [strs, List.getElem?_map, List.getElem?_take, Option.map_eq_some_iff] at hu
   obtain ⟨s, hs, rfl⟩ := hu
   split at hs
   ·have hj := (List.getElem?_eq_some_iff.1 hs).1
    rw [hcell j hj, List.getD_eq_getElem?_getD, hs]
    rfl
   ·cases hs
/-- Five arguments. -/
theorem trodAll_five {H : Type} {enc : TypeId × Value → H} {P : Program} {w : World} {base : Nat} {spare : Nat → Bool} {held : Bool} {t0 t1 t2 t3 t4 : TypeId} {args : Array Value} {ds : List (DataW H)} {ps : List MemPlace}
  (h : DataW.TrodAll enc P w base spare held [t0, t1, t2, t3, t4] args.toList ds ps) :
  ∃ v0 v1 v2 v3 v4 d0 d1 d2 d3 d4 p0 p1 p2 p3 p4, args = #[v0, v1, v2, v3, v4] ∧ ds = [d0, d1, d2, d3, d4] ∧ ps = p0 ++ (p1 ++ (p2 ++ (p3 ++ p4))) ∧ DataW.Trod enc P w base spare held t0 v0 d0 p0 ∧
   DataW.Trod enc P w base spare held t1 v1 d1 p1 ∧ DataW.Trod enc P w base spare held t2 v2 d2 p2 ∧ DataW.Trod enc P w base spare held t3 v3 d3 p3 ∧ DataW.Trod enc P w base spare held t4 v4 d4 p4 := by
 obtain ⟨v0, r0, d0, e0, p0, q0, ha, rfl, rfl, h0, hr⟩ := trodAll_cons h
 obtain ⟨v1, v2, v3, v4, d1, d2, d3, d4, p1, p2, p3, p4, hb, rfl, rfl, h1, h2, h3, h4⟩ := trodAll_four (args := r0.toArray) (by simpa using hr)
 have hr0 : r0 = [v1, v2, v3, v4] := by have := congrArg Array.toList hb; simpa using this
 subst hr0
 exact ⟨v0, v1, v2, v3, v4, d0, d1, d2, d3, d4, p0, p1, p2, p3, p4, by cases args; simp_all, rfl, by simp, h0, h1, h2, h3, h4⟩
theorem cells_string : Tryz.prog.cellsOf 9 = 1 := by kernel_rfl
end Go.Proofs.YtnpkplegeddhcaaGreat
namespace Go.Proofs.YtnpkplegeddhcaaGreat
open Go.ChangeShapes Go.WideShapes Go.ChangeAt Go.RowKit Go.Deep

theorem cells_asset : Tryz.prog.cellsOf 92 = 8 := by kernel_rfl
theorem cells_int1 : Tryz.prog.cellsOf 3 = 1 := by kernel_rfl
theorem cells_bool1 : Tryz.prog.cellsOf 4 = 1 := by kernel_rfl
section
variable {H : Type} {enc : TypeId × Value → H} {w : World} {base : Nat} {spare : Nat → Bool} {held : Bool}
theorem open_asset {n : Nat} {cs : List Value} {y : DataW H × List MemPlace} (hl : cs.length = 8) (h : DataW.trod enc Tryz.prog w base spare held n 92 cs = some y) : ∃ x : Asset, cs = (Kd.val x).cells.toList ∧ x.name.size ≤ 9223372036854775807 := by
 match cs, hl with
 | [c0, c1, c2, c3, c4, c5, c6, c7], _ =>
  obtain ⟨ys, n', _, _, hlen, hyl, hf⟩ := DataW.trod_struct Tryz.underlying92 h
  have g : ∀ j, j < 8 → ∃ y, ys[j]? = some y := fun j hj => ⟨_, List.getElem?_eq_getElem (by rw [hyl]; exact hj)⟩
  obtain ⟨y0, e0⟩ := g 0 (by omega)
  obtain ⟨y1, e1⟩ := g 1 (by omega)
  obtain ⟨y2, e2⟩ := g 2 (by omega)
  obtain ⟨y3, e3⟩ := g 3 (by omega)
  obtain ⟨y4, e4⟩ := g 4 (by omega)
  obtain ⟨y5, e5⟩ := g 5 (by omega)
  obtain ⟨y6, e6⟩ := g 6 (by omega)
  obtain ⟨y7, e7⟩ := g 7 (by omega)
  have f0 : DataW.trod enc Tryz.prog w base spare held n' 9 (List.take (Tryz.prog.cellsOf 9) (List.drop 0 [c0, c1, c2, c3, c4, c5, c6, c7])) = some y0 := (hf 0 _ rfl).trans e0
  have f1 : DataW.trod enc Tryz.prog w base spare held n' 4 (List.take (Tryz.prog.cellsOf 4) (List.drop 1 [c0, c1, c2, c3, c4, c5, c6, c7])) = some y1 := (hf 1 _ rfl).trans e1
  have f2 : DataW.trod enc Tryz.prog w base spare held n' 4 (List.take (Tryz.prog.cellsOf 4) (List.drop 2 [c0, c1, c2, c3, c4, c5, c6, c7])) = some y2 := (hf 2 _ rfl).trans e2
  have f3 : DataW.trod enc Tryz.prog w base spare held n' 3 (List.take (Tryz.prog.cellsOf 3) (List.drop 3 [c0, c1, c2, c3, c4, c5, c6, c7])) = some y3 := (hf 3 _ rfl).trans e3
  have f4 : DataW.trod enc Tryz.prog w base spare held n' 3 (List.take (Tryz.prog.cellsOf 3) (List.drop 4 [c0, c1, c2, c3, c4, c5, c6, c7])) = some y4 := (hf 4 _ rfl).trans e4
  have f5 : DataW.trod enc Tryz.prog w base spare held n' 3 (List.take (Tryz.prog.cellsOf 3) (List.drop 5 [c0, c1, c2, c3, c4, c5, c6, c7])) = some y5 := (hf 5 _ rfl).trans e5
  have f6 : DataW.trod enc Tryz.prog w base spare held n' 3 (List.take (Tryz.prog.cellsOf 3) (List.drop 6 [c0, c1, c2, c3, c4, c5, c6, c7])) = some y6 := (hf 6 _ rfl).trans e6
  have f7 : DataW.trod enc Tryz.prog w base spare held n' 3 (List.take (Tryz.prog.cellsOf 3) (List.drop 7 [c0, c1, c2, c3, c4, c5, c6, c7])) = some y7 := (hf 7 _ rfl).trans e7
  simp only [cells_string, cells_int1, cells_bool1, List.drop, List.take] at f0 f1 f2 f3 f4 f5 f6 f7
  obtain ⟨nm, hnm, _, wn⟩ := DataW.trod_string Tryz.underlying9 f0
  obtain ⟨cash, hcash, _⟩ := DataW.trod_bool Tryz.underlying4 f1
  obtain ⟨pl, hpl, _⟩ := DataW.trod_bool Tryz.underlying4 f2
  obtain ⟨u, hu, _, wu⟩ := DataW.trod_int Tryz.underlying3 f3
  obtain ⟨le, hle, _, _⟩ := DataW.trod_int Tryz.underlying3 f4
  obtain ⟨p, hp, _, wp⟩ := DataW.trod_int Tryz.underlying3 f5
  obtain ⟨c, hc, _, wc⟩ := DataW.trod_int Tryz.underlying3 f6
  obtain ⟨cl, hcl, _, _⟩ := DataW.trod_int Tryz.underlying3 f7
  simp only [List.cons.injEq, and_true] at hnm hcash hpl hu hle hp hc hcl
  subst hnm hcash hpl hu hle hp hc hcl
  unfold maxLen at wn
  exact ⟨⟨nm, cash, pl, u, le, p, c, cl⟩, rfl, wn⟩
theorem cells_party : Tryz.prog.cellsOf 84 = 2 := by kernel_rfl
theorem cells_account : Tryz.prog.cellsOf 88 = 2 := by kernel_rfl
theorem open_party {n : Nat} {cs : List Value} {y : DataW H × List MemPlace} (hl : cs.length = 2) (h : DataW.trod enc Tryz.prog w base spare held n 84 cs = some y) : ∃ x : Party, cs = (Kd.val x).cells.toList ∧ x.name.size ≤ 9223372036854775807 := by
 match cs, hl with
 | [c0, c1], _ =>
  obtain ⟨ys, n', _, _, hlen, hyl, hf⟩ := DataW.trod_struct Tryz.underlying84 h
  have g : ∀ j, j < 2 → ∃ y, ys[j]? = some y := fun j hj => ⟨_, List.getElem?_eq_getElem (by rw [hyl]; exact hj)⟩
  obtain ⟨y0, e0⟩ := g 0 (by omega)
  obtain ⟨y1, e1⟩ := g 1 (by omega)
  have f0 : DataW.trod enc Tryz.prog w base spare held n' 9 (List.take (Tryz.prog.cellsOf 9) (List.drop 0 [c0, c1])) = some y0 := (hf 0 _ rfl).trans e0
  have f1 : DataW.trod enc Tryz.prog w base spare held n' 3 (List.take (Tryz.prog.cellsOf 3) (List.drop 1 [c0, c1])) = some y1 := (hf 1 _ rfl).trans e1
  simp only [cells_string, cells_int1, List.drop, List.take] at f0 f1
  obtain ⟨nm, hnm, _, wn⟩ := DataW.trod_string Tryz.underlying9 f0
  obtain ⟨u, hu, _, wu⟩ := DataW.trod_int Tryz.underlying3 f1
  simp only [List.cons.injEq, and_true] at hnm hu
  subst hnm hu
  unfold maxLen at wn
  exact ⟨⟨nm, u⟩, rfl, wn⟩
theorem open_account {n : Nat} {cs : List Value} {y : DataW H × List MemPlace} (hl : cs.length = 2) (h : DataW.trod enc Tryz.prog w base spare held n 88 cs = some y) : ∃ x : Account, cs = (Kd.val x).cells.toList ∧ (x.name.size ≤ 9223372036854775807 ∧ x.party.size ≤ 9223372036854775807) := by
 match cs, hl with
 | [c0, c1], _ =>
  obtain ⟨ys, n', _, _, hlen, hyl, hf⟩ := DataW.trod_struct Tryz.underlying88 h
  have g : ∀ j, j < 2 → ∃ y, ys[j]? = some y := fun j hj => ⟨_, List.getElem?_eq_getElem (by rw [hyl]; exact hj)⟩
  obtain ⟨y0, e0⟩ := g 0 (by omega)
  obtain ⟨y1, e1⟩ := g 1 (by omega)
  have f0 : DataW.trod enc Tryz.prog w base spare held n' 9 (List.take (Tryz.prog.cellsOf 9) (List.drop 0 [c0, c1])) = some y0 := (hf 0 _ rfl).trans e0
  have f1 : DataW.trod enc Tryz.prog w base spare held n' 9 (List.take (Tryz.prog.cellsOf 9) (List.drop 1 [c0, c1])) = some y1 := (hf 1 _ rfl).trans e1
  simp only [cells_string, List.drop, List.take] at f0 f1
  obtain ⟨nm, hnm, _, wn⟩ := DataW.trod_string Tryz.underlying9 f0
  obtain ⟨u, hu, _, wu⟩ := DataW.trod_string Tryz.underlying9 f1
  simp only [List.cons.injEq, and_true] at hnm hu
  subst hnm hu
  unfold maxLen at wu wn
  exact ⟨⟨nm, u⟩, rfl, wn, wu⟩
end
/-- A slice of records that came in. -/
theorem open_recs {α : Type} [Kd α] {H : Type} {enc : TypeId × Value → H} {W : World} {v : Value} {d : DataW H} {ps : List MemPlace} {T TS : TypeId} {N : Nat} {P : α → Prop} (hTS : Tryz.prog.underlying TS = some (.slice T)) (hN : Tryz.prog.cellsOf T = N) (hpos : 0 < N)
  (hone : ∀ n cs y, cs.length = N → DataW.trod enc Tryz.prog W 0 (fun _ => true) true n T cs = some y → ∃ x : α, cs = (Kd.val x).cells.toList ∧ P x)
  (hv : ∃ a n c, v = .slice a n c) (h : DataW.Trod enc Tryz.prog W 0 (fun _ => true) true TS v d ps) (hlt : ∀ x ∈ ps, x.block < W.heap.size) :
  ∃ (A : Option Addr) (c : Nat) (l : List α), v = .slice A l.length c ∧ RowsAt W W.heap.size A N l ∧ l.length ≤ c ∧ l.length ≤ 9223372036854775807 ∧ ∀ x ∈ l, P x := by
 obtain ⟨a0, n0, c0, rfl⟩ := hv
 obtain ⟨fuel, hf⟩ := h
 rcases open_slice hTS hf with ⟨hcs, hx⟩ | ⟨a, len, cap, m, n, D, Pl, hcs, _, hl, hm, hmm, hx, hi⟩
 ·simp [Value.cells] at hcs
  obtain ⟨rfl, rfl, rfl⟩ := hcs
  exact ⟨none, 0, [], rfl, ⟨fun h => absurd h (by simp)⟩, Nat.le_refl _, by simp, by simp⟩
 ·simp [Value.cells] at hcs
  obtain ⟨rfl, rfl, rfl⟩ := hcs
  simp only [if_true] at hmm
  unfold maxLen at hm
  have hall : ∀ i, i < n0 → ∃ x : α, P x ∧ ∀ j v, (Kd.val x).cells[j]? = some v → W.cell? ((a.add (i * N)).add j) = some v := by
   intro i hin
   obtain ⟨cs', hc, ht'⟩ := hi i (by omega)
   rw [hN] at hc
   obtain ⟨_, hcl, hat⟩ := World.cells?_some hc
   obtain ⟨x, rfl, hfx⟩ := hone _ _ _ hcl ht'
   refine ⟨x, hfx, fun j v hj => ?_⟩
   have hj' : (Kd.val x).cells.toList[j]? = some v := by simpa using hj
   have hjl : j < N := by rw [← hcl]; exact (List.getElem?_eq_some_iff.1 hj').1
   rw [hat j hjl]
   exact hj'
  have hex : ∃ l : List α, l.length = n0 ∧ ∀ i x, l[i]? = some x → P x ∧ ∀ j v, (Kd.val x).cells[j]? = some v → W.cell? ((a.add (i * N)).add j) = some v := by
   clear hi hx hf hm hl
   induction n0 with
   | zero => exact ⟨[], rfl, fun i x hx => by simp at hx⟩
   | succ k ih =>
    obtain ⟨l, hl, hli⟩ := ih (fun i hi => hall i (by omega))
    obtain ⟨x, hx⟩ := hall k (by omega)
    refine ⟨l ++ [x], by simp [hl], fun i z hz => ?_⟩
    rcases Nat.lt_or_ge i l.length with h1 | h1
    ·rw [List.getElem?_append_left h1] at hz
     exact hli i z hz
    ·rw [List.getElem?_append_right h1] at hz
     have h2 : i - l.length = 0 := by
      rcases Nat.eq_zero_or_pos (i - l.length) with h2 | h2
      ·exact h2
      ·rw [List.getElem?_eq_none (by simp; omega)] at hz; cases hz
     rw [h2] at hz
     obtain rfl : x = z := by simpa using hz
     obtain rfl : i = k := by omega
     exact hx
  obtain ⟨l, hll, hli⟩ := hex
  refine ⟨some a, c0, l, by rw [hll], ⟨fun hn => ⟨a, rfl, ?_, fun k x hx => (hli k x hx).2⟩⟩, by omega, by omega, fun x hx => ?_⟩
  ·simp only [Prod.mk.injEq] at hx
   have hpe := hx.2
   rw [hN] at hpe
   rw [hpe] at hlt
   obtain ⟨p, hp, hpb⟩ := row_mem (ad := a) (n := m * N) (Nat.mul_pos (by omega) hpos)
   rw [← hpb]
   exact hlt p (by simp [hp])
  ·obtain ⟨i, hi9, hix⟩ := List.getElem_of_mem hx
   exact (hli i x (by rw [← hix]; exact List.getElem?_eq_getElem hi9)).1
theorem open_assets {H : Type} {enc : TypeId × Value → H} {W : World} {v : Value} {d : DataW H} {ps : List MemPlace}
  (hv : ∃ a n c, v = .slice a n c) (h : DataW.Trod enc Tryz.prog W 0 (fun _ => true) true 37 v d ps) (hlt : ∀ x ∈ ps, x.block < W.heap.size) :
  ∃ (A : Option Addr) (c : Nat) (l : List Asset), v = .slice A l.length c ∧ RowsAt W W.heap.size A 8 l ∧ l.length ≤ c ∧ l.length ≤ 9223372036854775807 ∧ ∀ x ∈ l, x.name.size ≤ 9223372036854775807 :=
 open_recs Tryz.underlying37 cells_asset (by decide) (fun _ _ _ h1 h2 => open_asset h1 h2) hv h hlt
theorem open_parties {H : Type} {enc : TypeId × Value → H} {W : World} {v : Value} {d : DataW H} {ps : List MemPlace}
  (hv : ∃ a n c, v = .slice a n c) (h : DataW.Trod enc Tryz.prog W 0 (fun _ => true) true 35 v d ps) (hlt : ∀ x ∈ ps, x.block < W.heap.size) :
  ∃ (A : Option Addr) (c : Nat) (l : List Party), v = .slice A l.length c ∧ RowsAt W W.heap.size A 2 l ∧ l.length ≤ c ∧ l.length ≤ 9223372036854775807 ∧ ∀ x ∈ l, x.name.size ≤ 9223372036854775807 :=
 open_recs Tryz.underlying35 cells_party (by decide) (fun _ _ _ h1 h2 => open_party h1 h2) hv h hlt
theorem open_accounts {H : Type} {enc : TypeId × Value → H} {W : World} {v : Value} {d : DataW H} {ps : List MemPlace}
  (hv : ∃ a n c, v = .slice a n c) (h : DataW.Trod enc Tryz.prog W 0 (fun _ => true) true 36 v d ps) (hlt : ∀ x ∈ ps, x.block < W.heap.size) :
  ∃ (A : Option Addr) (c : Nat) (l : List Account), v = .slice A l.length c ∧ RowsAt W W.heap.size A 2 l ∧ l.length ≤ c ∧ l.length ≤ 9223372036854775807 ∧ ∀ x ∈ l, x.name.size ≤ 9223372036854775807 ∧ x.party.size ≤ 9223372036854775807 :=
 open_recs Tryz.underlying36 cells_account (by decide) (fun _ _ _ h1 h2 => open_account h1 h2) hv h hlt
end Go.Proofs.YtnpkplegeddhcaaGreat
namespace Go.Proofs.YtnpkplegeddhcaaGreat

theorem list_of {X : Type} {n : Nat} {Q : Nat → X → Prop} (hall : ∀ i, i < n → ∃ x, Q i x) : ∃ l : List X, l.length = n ∧ ∀ (i : Nat) (x : X), l[i]? = some x → Q i x := by
 induction n with
 | zero => exact ⟨[], rfl, fun i x hx => by simp at hx⟩
 | succ k ih =>
  obtain ⟨l, hl, hli⟩ := ih (fun i hi => hall i (by omega))
  obtain ⟨x, hx⟩ := hall k (by omega)
  refine ⟨l ++ [x], by simp [hl], fun i z hz => ?_⟩
  rcases Nat.lt_or_ge i l.length with h1 | h1
  ·rw [List.getElem?_append_left h1] at hz
   exact hli i z hz
  ·rw [List.getElem?_append_right h1] at hz
   have h2 : i - l.length = 0 := by
    rcases Nat.eq_zero_or_pos (i - l.length) with h2 | h2
    ·exact h2
    ·rw [List.getElem?_eq_none (by simp; omega)] at hz; cases hz
   rw [h2] at hz
   obtain rfl : x = z := by simpa using hz
   obtain rfl : i = k := by omega
   exact hx
end Go.Proofs.YtnpkplegeddhcaaGreat
namespace Go.Proofs.YtnpkplegeddhcaaGreat
open Go.ChangeShapes Go.WideShapes Go.ChangeAt Go.RowKit Go.Deep

/-- A step. -/
structure ROp where
 kind : Int
 nn : Int
 s : ByteArray
 pp : List Party
 pa : Option Addr
 pc : Nat
 aa : List Account
 aA : Option Addr
 ac : Nat
 ll : List Asset
 la : Option Addr
 lc : Nat
def ROp.cells (x : ROp) : List Value := [.int .i64 x.kind, .int .i64 x.nn, .string x.s, .slice x.pa x.pp.length x.pc, .slice x.aA x.aa.length x.ac, .slice x.la x.ll.length x.lc]
/-- What lies behind a step. -/
structure ROp.In (x : ROp) (w : World) (B : Nat) : Prop where
 rp : RowsAt w B x.pa 2 x.pp
 ra : RowsAt w B x.aA 2 x.aa
 rl : RowsAt w B x.la 8 x.ll
structure ROp.Fits (x : ROp) : Prop where
 lp : x.pp.length ≤ 9223372036854775807
 la : x.aa.length ≤ 9223372036854775807
 ll : x.ll.length ≤ 9223372036854775807
 vp : ∀ y ∈ x.pp, y.name.size ≤ 9223372036854775807
 va : ∀ y ∈ x.aa, y.name.size ≤ 9223372036854775807 ∧ y.party.size ≤ 9223372036854775807
 vl : ∀ y ∈ x.ll, y.name.size ≤ 9223372036854775807
 vs : x.s.size ≤ 9223372036854775807
 vk : -9223372036854775808 ≤ x.kind ∧ x.kind ≤ 9223372036854775807
 vn : -9223372036854775808 ≤ x.nn ∧ x.nn ≤ 9223372036854775807
theorem RowsAt.keepB {α : Type} [Kd α] {w w' : World} {B N : Nat} {A : Option Addr} {l : List α} (h : RowsAt w B A N l) (hb : Below B w w') : RowsAt w' B A N l := ⟨fun hn => by
 obtain ⟨ad, e, hB, hc⟩ := h.row hn
 exact ⟨ad, e, hB, fun k x hx j v hv => (hb.cell (by rw [block_of_add, block_of_add]; exact hB)).trans (hc k x hx j v hv)⟩⟩
theorem ROp.In.below {x : ROp} {w w' : World} {B : Nat} (h : x.In w B) (hb : Below B w w') : x.In w' B := ⟨h.rp.keepB hb, h.ra.keepB hb, h.rl.keepB hb⟩
/-- Steps in memory. -/
structure ROpsAt (w : World) (B : Nat) (A : Option Addr) (l : List ROp) : Prop where
 row : 0 < l.length → ∃ ad, A = some ad ∧ ad.block < B ∧ ∀ k x, l[k]? = some x → ∀ j v, x.cells[j]? = some v → w.cell? ((ad.add (k * 6)).add j) = some v
 ins : ∀ x ∈ l, x.In w B
theorem ROpsAt.below {w w' : World} {B : Nat} {A : Option Addr} {l : List ROp} (h : ROpsAt w B A l) (hb : Below B w w') : ROpsAt w' B A l := ⟨fun hn => by
 obtain ⟨ad, e, hB, hc⟩ := h.row hn
 exact ⟨ad, e, hB, fun k x hx j v hv => (hb.cell (by rw [block_of_add, block_of_add]; exact hB)).trans (hc k x hx j v hv)⟩, fun x hx => (h.ins x hx).below hb⟩
theorem ROpsAt.at_ {w : World} {B : Nat} {A : Option Addr} {l : List ROp} (h : ROpsAt w B A l) {k : Nat} (hk : k < l.length) :
  ∃ ad x, A = some ad ∧ ad.block < B ∧ l[k]? = some x ∧ (∀ j v, x.cells[j]? = some v → w.cell? ((ad.add (k * 6)).add j) = some v) ∧ x.In w B := by
 obtain ⟨ad, e, hB, hc⟩ := h.row (by omega)
 exact ⟨ad, l[k], e, hB, List.getElem?_eq_getElem hk, hc k _ (List.getElem?_eq_getElem hk), h.ins _ (List.getElem_mem hk)⟩
theorem cells_op : Tryz.prog.cellsOf 63 = 6 := by kernel_rfl
theorem cells_s1 : Tryz.prog.cellsOf 35 = 1 := by kernel_rfl
theorem cells_s2 : Tryz.prog.cellsOf 36 = 1 := by kernel_rfl
theorem cells_s3 : Tryz.prog.cellsOf 37 = 1 := by kernel_rfl
section
variable {H : Type} {enc : TypeId × Value → H} {w : World}
theorem is_slice {P : Program} {t e : TypeId} {n : Nat} {c : Value} {y : DataW H × List MemPlace} (ht : P.underlying t = some (.slice e)) (h : DataW.trod enc P w 0 (fun _ => true) true n t [c] = some y) :
  (∃ a n c', c = .slice a n c') ∧ DataW.Trod enc P w 0 (fun _ => true) true t c y.1 y.2 := by
 rcases open_slice ht h with ⟨hcs, _⟩ | ⟨a, len, cap, m, n, D, Pl, hcs, _⟩
 ·simp only [List.cons.injEq, and_true] at hcs
  subst hcs
  exact ⟨⟨none, 0, 0, rfl⟩, ⟨_, by simpa [Value.cells] using h⟩⟩
 ·simp only [List.cons.injEq, and_true] at hcs
  subst hcs
  exact ⟨⟨some a, len, cap, rfl⟩, ⟨_, by simpa [Value.cells] using h⟩⟩
theorem open_wop {n : Nat} {cs : List Value} {y : DataW H × List MemPlace} (hl : cs.length = 6) (h : DataW.trod enc Tryz.prog w 0 (fun _ => true) true n 63 cs = some y) (hlt : ∀ x ∈ y.2, x.block < w.heap.size) : ∃ x : ROp, cs = x.cells ∧ x.In w w.heap.size ∧ x.Fits := by
 match cs, hl with
 | [c0, c1, c2, c3, c4, c5], _ =>
  obtain ⟨ys, n', _, hy, hlen, hyl, hf⟩ := DataW.trod_struct Tryz.underlying63 h
  subst hy
  have g : ∀ j, j < 6 → ∃ y, ys[j]? = some y := fun j hj => ⟨_, List.getElem?_eq_getElem (by rw [hyl]; exact hj)⟩
  have hp : ∀ (j : Nat) (y : DataW H × List MemPlace), ys[j]? = some y → ∀ p ∈ y.2, p.block < w.heap.size := fun j y hj p hp => hlt p (List.mem_flatMap.2 ⟨y, List.mem_of_getElem? hj, hp⟩)
  obtain ⟨y0, e0⟩ := g 0 (by omega)
  obtain ⟨y1, e1⟩ := g 1 (by omega)
  obtain ⟨y2, e2⟩ := g 2 (by omega)
  obtain ⟨y3, e3⟩ := g 3 (by omega)
  obtain ⟨y4, e4⟩ := g 4 (by omega)
  obtain ⟨y5, e5⟩ := g 5 (by omega)
  have f0 : DataW.trod enc Tryz.prog w 0 (fun _ => true) true n' 3 (List.take (Tryz.prog.cellsOf 3) (List.drop 0 [c0, c1, c2, c3, c4, c5])) = some y0 := (hf 0 _ rfl).trans e0
  have f1 : DataW.trod enc Tryz.prog w 0 (fun _ => true) true n' 3 (List.take (Tryz.prog.cellsOf 3) (List.drop 1 [c0, c1, c2, c3, c4, c5])) = some y1 := (hf 1 _ rfl).trans e1
  have f2 : DataW.trod enc Tryz.prog w 0 (fun _ => true) true n' 9 (List.take (Tryz.prog.cellsOf 9) (List.drop 2 [c0, c1, c2, c3, c4, c5])) = some y2 := (hf 2 _ rfl).trans e2
  have f3 : DataW.trod enc Tryz.prog w 0 (fun _ => true) true n' 35 (List.take (Tryz.prog.cellsOf 35) (List.drop 3 [c0, c1, c2, c3, c4, c5])) = some y3 := (hf 3 _ rfl).trans e3
  have f4 : DataW.trod enc Tryz.prog w 0 (fun _ => true) true n' 36 (List.take (Tryz.prog.cellsOf 36) (List.drop 4 [c0, c1, c2, c3, c4, c5])) = some y4 := (hf 4 _ rfl).trans e4
  have f5 : DataW.trod enc Tryz.prog w 0 (fun _ => true) true n' 37 (List.take (Tryz.prog.cellsOf 37) (List.drop 5 [c0, c1, c2, c3, c4, c5])) = some y5 := (hf 5 _ rfl).trans e5
  simp only [cells_s1, cells_s2, cells_s3, cells_int1, cells_string, List.drop, List.take] at f0 f1 f2 f3 f4 f5
  obtain ⟨k, hk, _, wk⟩ := DataW.trod_int Tryz.underlying3 f0
  obtain ⟨nn, hnn, _, wn⟩ := DataW.trod_int Tryz.underlying3 f1
  obtain ⟨s, hs, _, ws⟩ := DataW.trod_string Tryz.underlying9 f2
  obtain ⟨s3, t3⟩ := is_slice Tryz.underlying35 f3
  obtain ⟨s4, t4⟩ := is_slice Tryz.underlying36 f4
  obtain ⟨s5, t5⟩ := is_slice Tryz.underlying37 f5
  obtain ⟨pa, pc, pp, rfl, rp, _, lp, vp⟩ := open_parties s3 t3 (hp 3 y3 e3)
  obtain ⟨aA, ac, aa, rfl, ra, _, la', va⟩ := open_accounts s4 t4 (hp 4 y4 e4)
  obtain ⟨la, lc, ll, rfl, rl, _, ll', vl⟩ := open_assets s5 t5 (hp 5 y5 e5)
  simp only [List.cons.injEq, and_true] at hk hnn hs
  subst hk hnn hs
  unfold maxLen at ws
  exact ⟨⟨k, nn, s, pp, pa, pc, aa, aA, ac, ll, la, lc⟩, rfl, ⟨rp, ra, rl⟩, ⟨lp, la', ll', vp, va, vl, ws, bounds_i64 wk, bounds_i64 wn⟩⟩
end
set_option maxRecDepth 100000 in
/-- A slice of steps that came in. -/
theorem open_rops {H : Type} {enc : TypeId × Value → H} {W : World} {v : Value} {d : DataW H} {ps : List MemPlace}
  (hv : ∃ a n c, v = .slice a n c) (h : DataW.Trod enc Tryz.prog W 0 (fun _ => true) true 23 v d ps) (hlt : ∀ x ∈ ps, x.block < W.heap.size) :
  ∃ (A : Option Addr) (c : Nat) (l : List ROp), v = .slice A l.length c ∧ ROpsAt W W.heap.size A l ∧ l.length ≤ c ∧ l.length ≤ 9223372036854775807 ∧ ∀ x ∈ l, x.Fits := by
 obtain ⟨a0, n0, c0, rfl⟩ := hv
 obtain ⟨fuel, hf⟩ := h
 rcases open_slice Tryz.underlying23 hf with ⟨hcs, hx⟩ | ⟨a, len, cap, m, n, D, Pl, hcs, _, hl, hm, hmm, hx, hi⟩
 ·simp [Value.cells] at hcs
  obtain ⟨rfl, rfl, rfl⟩ := hcs
  exact ⟨none, 0, [], rfl, ⟨fun h => absurd h (by simp), by simp⟩, Nat.le_refl _, by simp, by simp⟩
 ·simp [Value.cells] at hcs
  obtain ⟨rfl, rfl, rfl⟩ := hcs
  simp only [if_true] at hmm
  unfold maxLen at hm
  simp only [Prod.mk.injEq] at hx
  obtain ⟨_, rfl⟩ := hx
  rw [cells_op] at hlt
  obtain ⟨l, hll, hli⟩ := list_of (n := n0) (Q := fun i (x : ROp) => (x.In W W.heap.size ∧ x.Fits) ∧ ∀ j v, x.cells[j]? = some v → W.cell? ((a.add (i * 6)).add j) = some v) (by
   intro i hin
   obtain ⟨cs', hc, ht'⟩ := hi i (by omega)
   rw [cells_op] at hc
   obtain ⟨_, hcl, hat⟩ := World.cells?_some hc
   obtain ⟨x, rfl, hin', hfx⟩ := open_wop hcl ht' (fun p hp => hlt p (List.mem_append.2 (.inr (List.mem_flatMap.2 ⟨i, List.mem_range.2 (by omega), hp⟩))))
   refine ⟨x, ⟨hin', hfx⟩, fun j v hj => ?_⟩
   have hjl : j < 6 := (List.getElem?_eq_some_iff.1 hj).1
   rw [hat j hjl]
   exact hj)
  have hall : ∀ x ∈ l, x.In W W.heap.size ∧ x.Fits := fun x hx => by
   obtain ⟨i, hi9, hix⟩ := List.getElem_of_mem hx
   exact (hli i x (by rw [← hix]; exact List.getElem?_eq_getElem hi9)).1
  refine ⟨some a, c0, l, by rw [hll], ⟨fun hn => ⟨a, rfl, ?_, fun k x hx => (hli k x hx).2⟩, fun x hx => (hall x hx).1⟩, by omega, by omega, fun x hx => (hall x hx).2⟩
  obtain ⟨p, hp, hpb⟩ := row_mem (ad := a) (n := m * 6) (by omega)
  rw [← hpb]
  exact hlt p (by simp [hp])
end Go.Proofs.YtnpkplegeddhcaaGreat
namespace Go.Proofs.YtnpkplegeddhcaaGreat
open Go.RowKit Go.Maps Go.Shelf Kb
set_option maxRecDepth 100000

section
variable {B r x g kp ka ks Mp Ma Ms N : Nat} {st st1 st2 : Rf} {s8 s81 s82 : R8} {w w' w'' : World}
theorem Did.trans (h : Did B r x g kp ka ks N st1 s81 w w') (h' : Did B r x g kp ka ks N st2 s82 w' w'') : Did B r x g kp ka ks N st2 s82 w w'' := ⟨h'.1, h.2.1.trans h'.2.1, h.2.2.trans h'.2.2⟩
theorem Did.then_ (h : Did B r x g kp ka ks N st1 s81 w w') (hb : Below w'.heap.size w' w'') : Did B r x g kp ka ks N st1 s81 w w'' := by
 obtain ⟨⟨Mp, Ma, Ms, h1⟩, h2, h3⟩ := h
 have hz := h1.sz.1
 exact ⟨⟨Mp, Ma, Ms, h1.below hb⟩, h2.trans (Up.of_below hb), h3.trans (hb.mono hz)⟩
theorem Did.refl (h : Wb B r x g kp ka ks Mp Ma Ms st s8 w) : Did B r x g kp ka ks N st s8 w w := ⟨⟨_, _, _, h⟩, Up.refl _ _, Below.refl _ _⟩
theorem Did.of_drew (h : Did B r x g kp ka ks N st s8 w.drew w') : Did B r x g kp ka ks N st s8 w w' := ⟨h.1, (Up.of_below (Below.refl _ _).drew).trans h.2.1, (Below.refl _ _).drew.trans h.2.2⟩
theorem Did.cell (h : Did B r x g kp ka ks N st s8 w w') {q j : Nat} {v : Value} (hq : N ≤ q) (hc : w.cell? ⟨q, j, none⟩ = some v) : w'.cell? ⟨q, j, none⟩ = some v := h.2.1.cell hq hc
theorem armP (hW : Wb B r x g kp ka ks Mp Ma Ms st s8 w) (hag : Agree st s8) (hr : r < N) (hx : x < N) {l : List Party} {A : Option Addr} {c n gm cm : Nat} (hn : l.length = n) (h60 : n ≤ 60) (hnm : ∀ z ∈ l, z.name.size ≤ 9223372036854775807) (hgm : N ≤ gm) (hcm : n + 1 ≤ cm) (hcm2 : cm ≤ 9223372036854775807)
  (hrm : Reads w w.heap.size 2 (some ⟨gm, 0, none⟩) (n + 1) (cs KPa.ec (l ++ [KPa.lm]))) (hA : RowsAt w B A 2 l) :
  ∃ (ev : Int) (st1 : Rf) (s81 : R8), Agree st1 s81 ∧ Hid (Calls Tryz.prog 11 #[.pointer (some ⟨r, 0, none⟩), .slice (some ⟨gm, 0, none⟩) n cm] w.drew fun e w' => e = .returned (.int .i64 ev) ∧ Did B r x g kp ka ks N st1 s8 w w') ∧
   Hid (∀ w7, Did B r x g kp ka ks N st1 s8 w w7 → Calls Tryz.prog 12 #[.pointer (some ⟨x, 0, none⟩), .slice A n c] w7 fun e w' => e = .returned (.int .i64 ev) ∧ Did B r x g kp ka ks N st1 s81 w w') ∧
   Hid (∀ w8, Did B r x g kp ka ks N st1 s81 w w8 → Calls Tryz.prog 13 #[.slice (some ⟨gm, 0, none⟩) n cm, .slice A n c] w8 fun e w' => e = .returned (.bool true) ∧ Did B r x g kp ka ks N st1 s81 w w') := by
 subst hn
 have hb0 : Below w.heap.size w w.drew := (Below.refl _ _).drew
 refine ⟨errP st l, addP st l, addsP8 s8 l, hag.addP hnm, ?_, fun w7 h7 => ?_, fun w8 h8 => ?_⟩
 ·have hrow : RowsAt w.drew w.drew.heap.size (some ⟨gm, 0, none⟩) 2 l := rows_head (α := Party) KPa.ec_len (by decide) (z := KPa.lm) (show Reads w w.heap.size 2 (some ⟨gm, 0, none⟩) (l.length + 1) (cellsOf (l ++ [KPa.lm])) from hrm)
  exact (wl_addP (N := N) (hW.below hb0) hr hag.ok hrow h60).mono fun e w' ⟨h1, h2⟩ => ⟨h1, h2.of_drew⟩
 ·obtain ⟨⟨Mp', Ma', Ms', hw7⟩, hup, hbl⟩ := id h7
  have := wl_addP8 (N := N) (c := c) hw7 hag hx (hA.keepB hbl) h60 hnm
  rw [errP_eq hag] at this
  exact this.mono fun e w' ⟨h1, h2⟩ => ⟨h1, h7.trans h2⟩
 ·have hA8 := (hA.keepB h8.2.2).reads (fun _ _ => rfl)
  refine (KPa.stays_any l gm cm A c B w.heap.size w8 l.length rfl hcm (h8.2.1.reads hgm hrm) hA8 (by omega) hcm2).mono ?_
  rintro e w' ⟨rfl, q, rfl⟩
  exact ⟨rfl, h8.then_ (drewN_below (Below.refl _ _) q)⟩
theorem armA (hW : Wb B r x g kp ka ks Mp Ma Ms st s8 w) (hag : Agree st s8) (hr : r < N) (hx : x < N) {l : List Account} {A : Option Addr} {c n gm cm : Nat} (hn : l.length = n) (h60 : n ≤ 60) (hnm : ∀ z ∈ l, z.name.size ≤ 9223372036854775807) (hpx : ∀ z ∈ l, z.party.size ≤ 9223372036854775807) (hgm : N ≤ gm) (hcm : n + 1 ≤ cm) (hcm2 : cm ≤ 9223372036854775807)
  (hrm : Reads w w.heap.size 2 (some ⟨gm, 0, none⟩) (n + 1) (cs KAc.ec (l ++ [KAc.lm]))) (hA : RowsAt w B A 2 l) :
  ∃ (ev : Int) (st1 : Rf) (s81 : R8), Agree st1 s81 ∧ Hid (Calls Tryz.prog 15 #[.pointer (some ⟨r, 0, none⟩), .slice (some ⟨gm, 0, none⟩) n cm] w.drew fun e w' => e = .returned (.int .i64 ev) ∧ Did B r x g kp ka ks N st1 s8 w w') ∧
   Hid (∀ w7, Did B r x g kp ka ks N st1 s8 w w7 → Calls Tryz.prog 16 #[.pointer (some ⟨x, 0, none⟩), .slice A n c] w7 fun e w' => e = .returned (.int .i64 ev) ∧ Did B r x g kp ka ks N st1 s81 w w') ∧
   Hid (∀ w8, Did B r x g kp ka ks N st1 s81 w w8 → Calls Tryz.prog 17 #[.slice (some ⟨gm, 0, none⟩) n cm, .slice A n c] w8 fun e w' => e = .returned (.bool true) ∧ Did B r x g kp ka ks N st1 s81 w w') := by
 subst hn
 have hb0 : Below w.heap.size w w.drew := (Below.refl _ _).drew
 refine ⟨errC st l, addC st l, addsA8 s8 l, hag.addC hnm, ?_, fun w7 h7 => ?_, fun w8 h8 => ?_⟩
 ·have hrow : RowsAt w.drew w.drew.heap.size (some ⟨gm, 0, none⟩) 2 l := rows_head (α := Account) KAc.ec_len (by decide) (z := KAc.lm) (show Reads w w.heap.size 2 (some ⟨gm, 0, none⟩) (l.length + 1) (cellsOf (l ++ [KAc.lm])) from hrm)
  exact (wl_addC (N := N) (hW.below hb0) hr hag.ok hrow h60 hpx).mono fun e w' ⟨h1, h2⟩ => ⟨h1, h2.of_drew⟩
 ·obtain ⟨⟨Mp', Ma', Ms', hw7⟩, hup, hbl⟩ := id h7
  have := wl_addA8 (N := N) (c := c) hw7 hag hx (hA.keepB hbl) h60 hnm
  rw [errC_eq hag] at this
  exact this.mono fun e w' ⟨h1, h2⟩ => ⟨h1, h7.trans h2⟩
 ·have hA8 := (hA.keepB h8.2.2).reads (fun _ _ => rfl)
  refine (KAc.stays_any l gm cm A c B w.heap.size w8 l.length rfl hcm (h8.2.1.reads hgm hrm) hA8 (by omega) hcm2).mono ?_
  rintro e w' ⟨rfl, q, rfl⟩
  exact ⟨rfl, h8.then_ (drewN_below (Below.refl _ _) q)⟩
theorem armS (hW : Wb B r x g kp ka ks Mp Ma Ms st s8 w) (hag : Agree st s8) (hr : r < N) (hx : x < N) {l : List Asset} {A : Option Addr} {c n gm cm : Nat} (hn : l.length = n) (h60 : n ≤ 60) (hnm : ∀ z ∈ l, z.name.size ≤ 9223372036854775807) (hgm : N ≤ gm) (hcm : n + 1 ≤ cm) (hcm2 : cm ≤ 9223372036854775807)
  (hrm : Reads w w.heap.size 8 (some ⟨gm, 0, none⟩) (n + 1) (cs KAs.ec (l ++ [KAs.lm]))) (hA : RowsAt w B A 8 l) :
  ∃ (ev : Int) (st1 : Rf) (s81 : R8), Agree st1 s81 ∧ Hid (Calls Tryz.prog 19 #[.pointer (some ⟨r, 0, none⟩), .slice (some ⟨gm, 0, none⟩) n cm] w.drew fun e w' => e = .returned (.int .i64 ev) ∧ Did B r x g kp ka ks N st1 s8 w w') ∧
   Hid (∀ w7, Did B r x g kp ka ks N st1 s8 w w7 → Calls Tryz.prog 20 #[.pointer (some ⟨x, 0, none⟩), .slice A n c] w7 fun e w' => e = .returned (.int .i64 ev) ∧ Did B r x g kp ka ks N st1 s81 w w') ∧
   Hid (∀ w8, Did B r x g kp ka ks N st1 s81 w w8 → Calls Tryz.prog 21 #[.slice (some ⟨gm, 0, none⟩) n cm, .slice A n c] w8 fun e w' => e = .returned (.bool true) ∧ Did B r x g kp ka ks N st1 s81 w w') := by
 subst hn
 have hb0 : Below w.heap.size w w.drew := (Below.refl _ _).drew
 refine ⟨errS st l, addS' st l, addsS8 s8 l, hag.addS hnm, ?_, fun w7 h7 => ?_, fun w8 h8 => ?_⟩
 ·have hrow : RowsAt w.drew w.drew.heap.size (some ⟨gm, 0, none⟩) 8 l := rows_head (α := Asset) KAs.ec_len (by decide) (z := KAs.lm) (show Reads w w.heap.size 8 (some ⟨gm, 0, none⟩) (l.length + 1) (cellsOf (l ++ [KAs.lm])) from hrm)
  exact (wl_addS (N := N) (hW.below hb0) hr hag.ok hrow h60).mono fun e w' ⟨h1, h2⟩ => ⟨h1, h2.of_drew⟩
 ·obtain ⟨⟨Mp', Ma', Ms', hw7⟩, hup, hbl⟩ := id h7
  have := wl_addS8 (N := N) (c := c) hw7 hag hx (hA.keepB hbl) h60 hnm
  rw [errS_eq hag] at this
  exact this.mono fun e w' ⟨h1, h2⟩ => ⟨h1, h7.trans h2⟩
 ·have hA8 := (hA.keepB h8.2.2).reads (fun _ _ => rfl)
  refine (KAs.stays_any l gm cm A c B w.heap.size w8 l.length rfl hcm (h8.2.1.reads hgm hrm) hA8 (by omega) hcm2).mono ?_
  rintro e w' ⟨rfl, q, rfl⟩
  exact ⟨rfl, h8.then_ (drewN_below (Below.refl _ _) q)⟩
theorem armPr (hW : Wb B r x g kp ka ks Mp Ma Ms st s8 w) (hag : Agree st s8) (hx : x < N) {s : ByteArray} (hs : s.size ≤ 9223372036854775807) (n : Int) :
  ∃ (ev : Int) (st1 : Rf) (s81 : R8), Agree st1 s81 ∧ Hid (Calls Tryz.prog 22 #[.pointer (some ⟨r, 0, none⟩), .string s, .int .i64 n] w.drew fun e w' => e = .returned (.int .i64 ev) ∧ Did B r x g kp ka ks N st1 s8 w w') ∧
   Hid (∀ w7, Did B r x g kp ka ks N st1 s8 w w7 → Calls Tryz.prog 23 #[.pointer (some ⟨x, 0, none⟩), .string s, .int .i64 n] w7 fun e w' => e = .returned (.int .i64 ev) ∧ Did B r x g kp ka ks N st1 s81 w w') := by
 have hb0 : Below w.heap.size w w.drew := (Below.refl _ _).drew
 refine ⟨errPr st s n, setPr st s n, setPr8 s8 s n, hag.setPr s n, ?_, fun w7 h7 => ?_⟩
 ·exact (wl_setPr (N := N) (hW.below hb0) hag hs n).mono fun e w' ⟨h1, h2⟩ => ⟨h1, h2.of_drew⟩
 ·obtain ⟨⟨Mp', Ma', Ms', hw7⟩, hup, hbl⟩ := id h7
  have := wl_setPr8 (N := N) hw7 hag hx s n
  rw [errPr_eq hag] at this
  exact this.mono fun e w' ⟨h1, h2⟩ => ⟨h1, h7.trans h2⟩
theorem armLi (hW : Wb B r x g kp ka ks Mp Ma Ms st s8 w) (hag : Agree st s8) (hx : x < N) {s : ByteArray} (hs : s.size ≤ 9223372036854775807) (n : Int) :
  ∃ (ev : Int) (st1 : Rf) (s81 : R8), Agree st1 s81 ∧ Hid (Calls Tryz.prog 24 #[.pointer (some ⟨r, 0, none⟩), .string s, .int .i64 n] w.drew fun e w' => e = .returned (.int .i64 ev) ∧ Did B r x g kp ka ks N st1 s8 w w') ∧
   Hid (∀ w7, Did B r x g kp ka ks N st1 s8 w w7 → Calls Tryz.prog 25 #[.pointer (some ⟨x, 0, none⟩), .string s, .int .i64 n] w7 fun e w' => e = .returned (.int .i64 ev) ∧ Did B r x g kp ka ks N st1 s81 w w') := by
 have hb0 : Below w.heap.size w w.drew := (Below.refl _ _).drew
 refine ⟨errLi st s n, setLi st s n, setLi8 s8 s n, hag.setLi s n, ?_, fun w7 h7 => ?_⟩
 ·exact (wl_setLi (N := N) (hW.below hb0) hag hs n).mono fun e w' ⟨h1, h2⟩ => ⟨h1, h2.of_drew⟩
 ·obtain ⟨⟨Mp', Ma', Ms', hw7⟩, hup, hbl⟩ := id h7
  have := wl_setLi8 (N := N) hw7 hag hx s n
  rw [errLi_eq hag] at this
  exact this.mono fun e w' ⟨h1, h2⟩ => ⟨h1, h7.trans h2⟩
theorem armC (hW : Wb B r x g kp ka ks Mp Ma Ms st s8 w) (hag : Agree st s8) (hx : x < N) (hrN : r < N) {c : Nat} (hc : w.cell? ⟨r, 0, none⟩ = some (.pointer (some ⟨c, 0, none⟩))) (hcN : c < N) {n : Int} (hn : -9223372036854775808 ≤ n ∧ n ≤ 9223372036854775807) :
  ∃ (ev : Int) (st1 : Rf) (s81 : R8), Agree st1 s81 ∧
   Hid (∀ w6 q cp, Below w.heap.size w w6 → Reads w6 w6.heap.size 1 (some ⟨q, 0, none⟩) 1 [.int .i64 n] → Calls Tryz.prog 26 #[.pointer (some ⟨c, 0, none⟩), .slice (some ⟨q, 0, none⟩) 1 cp] w6 fun e w' => e = .returned (.int .i64 ev) ∧ Did B r x g kp ka ks N st1 s8 w w' ∧ Up N w6 w' ∧ w'.cell? ⟨r, 0, none⟩ = some (.pointer (some ⟨c, 0, none⟩))) ∧
   Hid (∀ w7 q cp, Did B r x g kp ka ks N st1 s8 w w7 → Reads w7 w7.heap.size 1 (some ⟨q, 0, none⟩) 1 [.int .i64 n] → w7.cell? ⟨r, 0, none⟩ = some (.pointer (some ⟨c, 0, none⟩)) → Calls Tryz.prog 8 #[.pointer (some ⟨x, 0, none⟩), .slice (some ⟨q, 0, none⟩) 1 cp] w7 fun e w' => e = .returned (.int .i64 ev) ∧ Did B r x g kp ka ks N st1 s81 w w' ∧ w'.cell? ⟨r, 0, none⟩ = some (.pointer (some ⟨c, 0, none⟩))) := by
 refine ⟨errMore st.h [n], ⟨st.p, st.a, st.s, outD st.h [n]⟩, ⟨outC8 s8.l [n], s8.p, s8.a, s8.s⟩, hag.close [n], fun w6 q cp hb hr => ?_, fun w7 q cp h7 hr hc7 => ?_⟩
 ·have hrl := hW.ref.lt
  have := wl_close (N := N) (cp := cp) (hW.below hb) hag ((hb.cell (p := ⟨r, 0, none⟩) hrl).trans hc) hcN (l := [n]) (A := some ⟨q, 0, none⟩) hr (by simp) (by simpa using hn)
  have hz := hW.sz.1
  exact this.mono fun e w' ⟨h1, h2⟩ => ⟨h1, ⟨h2.1.1, (Up.of_below hb).trans h2.1.2.1, (hb.mono hz).trans h2.1.2.2⟩, h2.1.2.1, h2.2⟩
 ·obtain ⟨⟨Mp', Ma', Ms', hw7⟩, hup, hbl⟩ := id h7
  have := wl_close8 (N := N) (c := cp) hw7 hag hx (l := [n]) (A := some ⟨q, 0, none⟩) hr (by simp)
  rw [errClose_eq hag] at this
  exact this.mono fun e w' ⟨h1, h2, h3⟩ => ⟨h1, h7.trans h2, h3 _ hc7⟩
end
end Go.Proofs.YtnpkplegeddhcaaGreat
