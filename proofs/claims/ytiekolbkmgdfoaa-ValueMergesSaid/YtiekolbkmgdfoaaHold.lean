/-
  What all of this seat's statements share at their end: an argument that is a slice of texts opened; every argument reads as it did wherever nothing below the heap's old size has turned.
  Conditions: none beyond each lemma's own premises.
-/
import Derived.ProofKit
import Derived.SliceStrings
import Derived.OpenShut
import Derived.Carry
import Derived.Test.YtiekolbkmgdfoaaAid
import Derived.Test.YtiekolbkmgdfoaaRows
namespace Go.Proofs.Ytiekolbkmgdfoaa
open Go.ChangeShapes Go.WideShapes Go.ChangeAt Go.RowKit

theorem own_knob : ownKnob Try.prog.godebug = none := by kernel_rfl
theorem laid_out : laidOutB Try.prog = true := by kernel_rfl

theorem trodAll_below {H : Type} {enc : TypeId × Value → H} {P : Program} (hl : laidOutB P = true) {W W' : World} (hb : Below W.heap.size W W') :
    ∀ (ts : List TypeId) (vs : List Value) (ds : List (DataW H)) (ps : List MemPlace), (ts.all fun t => P.readableRec t && decide (t < P.types.size)) = true →
      DataW.TrodAll enc P W 0 (fun _ => true) true ts vs ds ps → (∀ x ∈ ps, x.block < W.heap.size) → DataW.TrodAll enc P W' 0 (fun b => decide (b < W.heap.size)) true ts vs ds ps
  | [], _, _, _, _, h, _ => by
    obtain ⟨rfl, rfl, rfl⟩ := trodAll_nil h
    exact rfl
  | t :: ts, vs, ds, ps, hr, h, hlt => by
    obtain ⟨v, vs', d, ds', p, q, rfl, rfl, rfl, h1, h2⟩ := trodAll_cons h
    simp only [List.all_cons, Bool.and_eq_true, decide_eq_true_eq] at hr
    exact trodAll_cons_mk (Below.trod hl hr.1.1 hr.1.2 h1 hb fun x hx => hlt x (by simp [hx])) (trodAll_below hl hb ts vs' ds' q hr.2 h2 fun x hx => hlt x (by simp [hx]))

/-- The end of each law: it returned true, and nothing that was there has turned. -/
theorem law_post {H : Type} {enc : TypeId × Value → H} (f : Func) (s : ChangeSpec) (hf : f.resultTypes = #[4]) (hs : s.vars = [])
    (hread : (f.params.toList.all fun t => Try.prog.readableRec t && decide (t < Try.prog.types.size)) = true)
    {W W' : World} {args : Array Value} {ds : List (DataW H)} {before : List MemPlace}
    (hW : DataW.Whole enc Try.prog f.params.toList s.vars false W args.toList ds [] before)
    (hA : DataW.TrodAll enc Try.prog W 0 (fun _ => true) true f.params.toList args.toList ds before)
    (hres : (s.fn H (ds ++ [])).results = [.lit (.bool true)]) (hargs : (s.fn H (ds ++ [])).args = ds) (hvars : (s.fn H (ds ++ [])).vars = [])
    (hb : Below W.heap.size W W') :
    s.post enc Try.prog f false true false false W args (.bool true) W' := by
  have hlt : ∀ x ∈ before, x.block < W.heap.size := fun x hx => hW.lt x hx
  refine ⟨ds, [], before, [], before, [], hW, ?_, ?_, ?_, hb.frame _, fun h => by cases h⟩
  · rw [hres, hf]
    exact trodAll_mk1 (shut_bool Try.underlying4 true)
  · rw [hargs]
    exact trodAll_below laid_out hb _ _ _ _ hread hA hlt
  · rw [hvars, hs]
    rfl

theorem row_mem {ad : Addr} {n : Nat} (h : 0 < n) : ∃ p ∈ MemPlace.row ad n, p.block = ad.block :=
  ⟨.cell ad.block ad.off, MemPlace.mem_row.2 ⟨0, h, by simp⟩, rfl⟩

/-- A slice of texts that came in. -/
theorem open_texts {H : Type} {enc : TypeId × Value → H} {P : Program} {W : World} {t e : TypeId} {v : Value} {d : DataW H} {ps : List MemPlace} (ht : P.underlying t = some (.slice e)) (he : P.underlying e = some .string) (hc : P.cellsOf e = 1)
    (hv : ∃ a n c, v = .slice a n c) (h : DataW.Trod enc P W 0 (fun _ => true) true t v d ps) (hlt : ∀ x ∈ ps, x.block < W.heap.size) :
    ∃ (A : Option Addr) (c : Nat) (ss : List ByteArray), v = .slice A ss.length c ∧ Reads W W.heap.size 1 A ss.length (strs ss) ∧ ss.length ≤ c ∧ ss.length ≤ 9223372036854775807 ∧ ∀ s ∈ ss, s.size ≤ 9223372036854775807 := by
  obtain ⟨a0, n0, c0, rfl⟩ := hv
  obtain ⟨fuel, hf⟩ := h
  rcases open_strings ht he hc hf with ⟨hcs, hx⟩ | ⟨a, len, cap, ss, hcs, _, hl, hm, hz, hx, hcell, hws⟩
  · simp [Value.cells] at hcs
    obtain ⟨rfl, rfl, rfl⟩ := hcs
    exact ⟨none, 0, [], rfl, Reads.none_, Nat.le_refl _, by simp, by simp⟩
  · simp [Value.cells] at hcs
    obtain ⟨rfl, rfl, rfl⟩ := hcs
    simp only [Prod.mk.injEq] at hx
    obtain ⟨_, rfl⟩ := hx
    simp only [if_true] at hz
    unfold maxLen at hm
    have e1 : (ss.take n0).length = n0 := by rw [List.length_take]; omega
    refine ⟨some a, c0, ss.take n0, by rw [e1], ?_, by rw [e1]; exact hl, by rw [e1]; omega, fun s hs => hws s (List.mem_of_mem_take hs)⟩
    rw [e1]
    refine ⟨by rw [strs_len, e1]; omega, fun hn => ⟨a, rfl, ?_, fun j u hu => ?_⟩⟩
    · obtain ⟨p, hp, hpb⟩ := row_mem (ad := a) (n := ss.length) (by omega)
      rw [← hpb]
      exact hlt p hp
    · simp only [strs, List.getElem?_map, List.getElem?_take, Option.map_eq_some_iff] at hu
      obtain ⟨s, hs, rfl⟩ := hu
      split at hs
      · have hj := (List.getElem?_eq_some_iff.1 hs).1
        rw [hcell j hj, List.getD_eq_getElem?_getD, hs]
        rfl
      · cases hs
/-- Five arguments. -/
theorem trodAll_five {H : Type} {enc : TypeId × Value → H} {P : Program} {w : World} {base : Nat} {spare : Nat → Bool} {held : Bool} {t0 t1 t2 t3 t4 : TypeId} {args : Array Value} {ds : List (DataW H)} {ps : List MemPlace}
    (h : DataW.TrodAll enc P w base spare held [t0, t1, t2, t3, t4] args.toList ds ps) :
    ∃ v0 v1 v2 v3 v4 d0 d1 d2 d3 d4 p0 p1 p2 p3 p4, args = #[v0, v1, v2, v3, v4] ∧ ds = [d0, d1, d2, d3, d4] ∧ ps = p0 ++ (p1 ++ (p2 ++ (p3 ++ p4))) ∧ DataW.Trod enc P w base spare held t0 v0 d0 p0 ∧
      DataW.Trod enc P w base spare held t1 v1 d1 p1 ∧ DataW.Trod enc P w base spare held t2 v2 d2 p2 ∧ DataW.Trod enc P w base spare held t3 v3 d3 p3 ∧ DataW.Trod enc P w base spare held t4 v4 d4 p4 := by
  obtain ⟨v0, r0, d0, e0, p0, q0, ha, rfl, rfl, h0, hr⟩ := trodAll_cons h
  obtain ⟨v1, v2, v3, v4, d1, d2, d3, d4, p1, p2, p3, p4, hb, rfl, rfl, h1, h2, h3, h4⟩ := trodAll_four (args := r0.toArray) (by simpa using hr)
  have hr0 : r0 = [v1, v2, v3, v4] := by have := congrArg Array.toList hb; simpa using this
  subst hr0
  exact ⟨v0, v1, v2, v3, v4, d0, d1, d2, d3, d4, p0, p1, p2, p3, p4, by cases args; simp_all, rfl, by simp, h0, h1, h2, h3, h4⟩
theorem cells_string : Try.prog.cellsOf 9 = 1 := by kernel_rfl
end Go.Proofs.Ytiekolbkmgdfoaa
