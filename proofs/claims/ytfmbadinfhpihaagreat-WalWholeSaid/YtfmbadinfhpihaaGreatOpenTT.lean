/-
  An argument that is a slice of slices of texts, opened.
  Conditions: the call's own.
-/
import Derived.Test.YtfmbadinfhpihaaGreatHold
import Derived.Test.YtfmbadinfhpihaaGreatListOf
import Derived.Deep.Slices
import Derived.ChangeSame
namespace Go.Proofs.YtfmbadinfhpihaaGreat
open Go.ChangeShapes Go.WideShapes Go.ChangeAt Go.RowKit Go.Deep

/-- A list in a list of lists: what it holds, where it lies. -/
structure TL where
  ss : List ByteArray
  a : Option Addr
  c : Nat
structure TL.Fits (x : TL) : Prop where
  lt : x.ss.length ≤ 9223372036854775807
  vt : ∀ s ∈ x.ss, s.size ≤ 9223372036854775807
/-- Lists of texts in memory. -/
structure TLsAt (w : World) (B : Nat) (A : Option Addr) (l : List TL) : Prop where
  row : 0 < l.length → ∃ ad, A = some ad ∧ ad.block < B ∧ ∀ k x, l[k]? = some x → w.cell? (ad.add k) = some (.slice x.a x.ss.length x.c)
  ins : ∀ x ∈ l, Reads w B 1 x.a x.ss.length (strs x.ss)
theorem TLsAt.below {w w' : World} {B : Nat} {A : Option Addr} {l : List TL} (h : TLsAt w B A l) (hb : Below B w w') : TLsAt w' B A l := ⟨fun hn => by
  obtain ⟨ad, e, hB, hc⟩ := h.row hn
  exact ⟨ad, e, hB, fun k x hx => (hb.cell (by rw [block_of_add]; exact hB)).trans (hc k x hx)⟩, fun x hx => (h.ins x hx).below hb⟩
theorem TLsAt.at_ {w : World} {B : Nat} {A : Option Addr} {l : List TL} (h : TLsAt w B A l) {k : Nat} (hk : k < l.length) :
    ∃ ad x, A = some ad ∧ ad.block < B ∧ l[k]? = some x ∧ w.cell? (ad.add k) = some (.slice x.a x.ss.length x.c) ∧ Reads w B 1 x.a x.ss.length (strs x.ss) := by
  obtain ⟨ad, e, hB, hc⟩ := h.row (by omega)
  exact ⟨ad, l[k], e, hB, List.getElem?_eq_getElem hk, hc k _ (List.getElem?_eq_getElem hk), h.ins _ (List.getElem_mem hk)⟩
theorem cells_tl : Tryz.prog.cellsOf 22 = 1 := by kernel_rfl
theorem is_slice {H : Type} {enc : TypeId × Value → H} {w : World} {P : Program} {t e : TypeId} {n : Nat} {c : Value} {y : DataW H × List MemPlace} (ht : P.underlying t = some (.slice e)) (h : DataW.trod enc P w 0 (fun _ => true) true n t [c] = some y) :
    (∃ a n c', c = .slice a n c') ∧ DataW.Trod enc P w 0 (fun _ => true) true t c y.1 y.2 := by
  rcases open_slice ht h with ⟨hcs, _⟩ | ⟨a, len, cap, m, n, D, Pl, hcs, _⟩
  · simp only [List.cons.injEq, and_true] at hcs
    subst hcs
    exact ⟨⟨none, 0, 0, rfl⟩, ⟨_, by simpa [Value.cells] using h⟩⟩
  · simp only [List.cons.injEq, and_true] at hcs
    subst hcs
    exact ⟨⟨some a, len, cap, rfl⟩, ⟨_, by simpa [Value.cells] using h⟩⟩
set_option maxRecDepth 100000 in
theorem open_tls {H : Type} {enc : TypeId × Value → H} {W : World} {v : Value} {d : DataW H} {ps : List MemPlace}
    (hv : ∃ a n c, v = .slice a n c) (h : DataW.Trod enc Tryz.prog W 0 (fun _ => true) true 35 v d ps) (hlt : ∀ x ∈ ps, x.block < W.heap.size) :
    ∃ (A : Option Addr) (c : Nat) (l : List TL), v = .slice A l.length c ∧ TLsAt W W.heap.size A l ∧ l.length ≤ c ∧ l.length ≤ 9223372036854775807 ∧ ∀ x ∈ l, x.Fits := by
  obtain ⟨a0, n0, c0, rfl⟩ := hv
  obtain ⟨fuel, hf⟩ := h
  rcases open_slice Tryz.underlying35 hf with ⟨hcs, hx⟩ | ⟨a, len, cap, m, n, D, Pl, hcs, _, hl, hm, hmm, hx, hi⟩
  · simp [Value.cells] at hcs
    obtain ⟨rfl, rfl, rfl⟩ := hcs
    exact ⟨none, 0, [], rfl, ⟨fun h => absurd h (by simp), by simp⟩, Nat.le_refl _, by simp, by simp⟩
  · simp [Value.cells] at hcs
    obtain ⟨rfl, rfl, rfl⟩ := hcs
    simp only [if_true] at hmm
    unfold maxLen at hm
    simp only [Prod.mk.injEq] at hx
    obtain ⟨_, rfl⟩ := hx
    rw [cells_tl] at hlt
    obtain ⟨l, hll, hli⟩ := list_of (n := n0) (Q := fun i (x : TL) => (Reads W W.heap.size 1 x.a x.ss.length (strs x.ss) ∧ x.Fits) ∧ W.cell? (a.add i) = some (.slice x.a x.ss.length x.c)) (by
      intro i hin
      obtain ⟨cs', hc, ht'⟩ := hi i (by omega)
      rw [cells_tl] at hc
      obtain ⟨_, hcl, hat⟩ := World.cells?_some hc
      match cs', hcl with
      | [c0'], _ =>
        obtain ⟨s2, t2⟩ := is_slice Tryz.underlying22 ht'
        obtain ⟨ta, tc, tt, rfl, rt, _, lt, vt⟩ := open_texts Tryz.underlying22 Tryz.underlying9 cells_string s2 t2 (fun p hp => hlt p (List.mem_append.2 (.inr (List.mem_flatMap.2 ⟨i, List.mem_range.2 (by omega), hp⟩))))
        refine ⟨⟨tt, ta, tc⟩, ⟨rt, lt, vt⟩, ?_⟩
        have := hat 0 (by omega)
        rw [add_of_add, Nat.mul_one, Nat.add_zero] at this
        exact this)
    have hall : ∀ x ∈ l, Reads W W.heap.size 1 x.a x.ss.length (strs x.ss) ∧ x.Fits := fun x hx => by
      obtain ⟨i, hi9, hix⟩ := List.getElem_of_mem hx
      exact (hli i x (by rw [← hix]; exact List.getElem?_eq_getElem hi9)).1
    refine ⟨some a, c0, l, by rw [hll], ⟨fun hn => ⟨a, rfl, ?_, fun k x hx => (hli k x hx).2⟩, fun x hx => (hall x hx).1⟩, by omega, by omega, fun x hx => (hall x hx).2⟩
    obtain ⟨p, hp, hpb⟩ := row_mem (ad := a) (n := m * 1) (by omega)
    rw [← hpb]
    exact hlt p (List.mem_append.2 (.inl hp))
end Go.Proofs.YtfmbadinfhpihaaGreat
