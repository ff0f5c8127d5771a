/-
  An argument that is a slice of ints, opened.
  Conditions: the call's own.
-/
import Derived.Test.YtjhinifmdjlblaaGreatHold
import Derived.ChangeSlices
namespace Go.Proofs.YtjhinifmdjlblaaGreat
open Go.ChangeShapes Go.WideShapes Go.ChangeAt Go.RowKit

/-- A slice of ints that came in. -/
theorem open_intsA {H : Type} {enc : TypeId × Value → H} {P : Program} {W : World} {t e : TypeId} {v : Value} {d : DataW H} {ps : List MemPlace} (ht : P.underlying t = some (.slice e)) (he : P.underlying e = some (.int .i64)) (hc : P.cellsOf e = 1)
    (hv : ∃ a n c, v = .slice a n c) (h : DataW.Trod enc P W 0 (fun _ => true) true t v d ps) (hlt : ∀ x ∈ ps, x.block < W.heap.size) :
    ∃ (A : Option Addr) (c : Nat) (ss : List Int), v = .slice A ss.length c ∧ Reads W W.heap.size 1 A ss.length (ints ss) ∧ ss.length ≤ c ∧ ss.length ≤ 9223372036854775807 ∧ ∀ v ∈ ss, -9223372036854775808 ≤ v ∧ v ≤ 9223372036854775807 := by
  obtain ⟨a0, n0, c0, rfl⟩ := hv
  obtain ⟨fuel, hf⟩ := h
  rcases open_ints ht he hc hf with ⟨hcs, hx⟩ | ⟨a, len, cap, ss, hcs, _, hl, hm, hz, hx, hcell, hws⟩
  · simp [Value.cells] at hcs
    obtain ⟨rfl, rfl, rfl⟩ := hcs
    exact ⟨none, 0, [], rfl, Reads.none_, Nat.le_refl _, by simp, by simp⟩
  · simp [Value.cells] at hcs
    obtain ⟨rfl, rfl, rfl⟩ := hcs
    simp only [Prod.mk.injEq] at hx
    obtain ⟨_, rfl⟩ := hx
    simp only [if_true] at hz
    unfold maxLen at hm
    have e1 : (ss.take n0).length = n0 := by rw [List.length_take]; omega
    refine ⟨some a, c0, ss.take n0, by rw [e1], ?_, by rw [e1]; exact hl, by rw [e1]; omega, fun s hs => bounds_i64 (hws s (List.mem_of_mem_take hs))⟩
    rw [e1]
    refine ⟨by rw [ints_len, e1]; omega, fun hn => ⟨a, rfl, ?_, fun j u hu => ?_⟩⟩
    · obtain ⟨p, hp, hpb⟩ := row_mem (ad := a) (n := ss.length) (by omega)
      rw [← hpb]
      exact hlt p hp
    · simp only [ints, List.getElem?_map, List.getElem?_take, Option.map_eq_some_iff] at hu
      obtain ⟨s, hs, rfl⟩ := hu
      split at hs
      · have hj := (List.getElem?_eq_some_iff.1 hs).1
        rw [hcell j hj, List.getD_eq_getElem?_getD, hs]
        rfl
      · cases hs
theorem cells_int : Tryz.prog.cellsOf 3 = 1 := by kernel_rfl
end Go.Proofs.YtjhinifmdjlblaaGreat
