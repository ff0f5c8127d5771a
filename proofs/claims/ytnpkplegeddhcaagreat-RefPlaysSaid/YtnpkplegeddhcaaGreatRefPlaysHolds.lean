/-
 RefPlays proved: whatever is done in whatever order, the program answers as the document: for every input the law returns true.
 Conditions: none.
-/
import Derived.Test.YtnpkplegeddhcaaGreatRpZ
import Derived.ChangeSlices
import Derived.Test.YtnpkplegeddhcaaGreatRp
namespace Go.Proofs.YtnpkplegeddhcaaGreat
open Go.ChangeShapes Go.WideShapes Go.ChangeAt Go.RowKit

/-- A slice of ints that came in. -/
theorem open_intsA {H : Type} {enc : TypeId × Value → H} {P : Program} {W : World} {t e : TypeId} {v : Value} {d : DataW H} {ps : List MemPlace} (ht : P.underlying t = some (.slice e)) (he : P.underlying e = some (.int .i64)) (hc : P.cellsOf e = 1)
  (hv : ∃ a n c, v = .slice a n c) (h : DataW.Trod enc P W 0 (fun _ => true) true t v d ps) (hlt : ∀ x ∈ ps, x.block < W.heap.size) :
  ∃ (A : Option Addr) (c : Nat) (ss : List Int), v = .slice A ss.length c ∧ Reads W W.heap.size 1 A ss.length (ints ss) ∧ ss.length ≤ c ∧ ss.length ≤ 9223372036854775807 ∧ ∀ v ∈ ss, -9223372036854775808 ≤ v ∧ v ≤ 9223372036854775807 := by
 obtain ⟨a0, n0, c0, rfl⟩ := hv
 obtain ⟨fuel, hf⟩ := h
 rcases open_ints ht he hc hf with ⟨hcs, hx⟩ | ⟨a, len, cap, ss, hcs, _, hl, hm, hz, hx, hcell, hws⟩
 ·simp [Value.cells] at hcs
  obtain ⟨rfl, rfl, rfl⟩ := hcs
  exact ⟨none, 0, [], rfl, Reads.none_, Nat.le_refl _, by simp, by simp⟩
 ·simp [Value.cells] at hcs
  obtain ⟨rfl, rfl, rfl⟩ := hcs
  simp only [Prod.mk.injEq] at hx
  obtain ⟨_, rfl⟩ := hx
  simp only [if_true] at hz
  unfold maxLen at hm
  have e1 : (ss.take n0).length = n0 := by rw [List.length_take]; omega
  refine ⟨some a, c0, ss.take n0, by rw [e1], ?_, by rw [e1]; exact hl, by rw [e1]; omega, fun s hs => bounds_i64 (hws s (List.mem_of_mem_take hs))⟩
  rw [e1]
  refine ⟨by rw [ints_len, e1]; omega, fun hn => ⟨a, rfl, ?_, fun j u hu => ?_⟩⟩
  ·obtain ⟨p, hp, hpb⟩ := row_mem (ad := a) (n := ss.length) (by omega)
   rw [← hpb]
   exact hlt p hp
  ·simp only [ints, List.getElem?_map, List.getElem?_take, Option.map_eq_some_iff] at hu
   obtain ⟨s, hs, rfl⟩ := hu
   split at hs
   ·have hj := (List.getElem?_eq_some_iff.1 hs).1
    rw [hcell j hj, List.getD_eq_getElem?_getD, hs]
    rfl
   ·cases hs
theorem cells_int : Tryz.prog.cellsOf 3 = 1 := by kernel_rfl
end Go.Proofs.YtnpkplegeddhcaaGreat
namespace Go.Proofs.YtnpkplegeddhcaaGreat
open Go.ChangeShapes Go.WideShapes Go.ChangeAt Go.RowKit
open Go.ChangeMaps (open_string)

set_option maxRecDepth 100000 in
theorem rplays_lifted (os : Os) (started : os.Started) (H : Type) (enc : TypeId × Value → H) :
  ReturnsInHanded {} Tryz.checked os 3 .any (Rows.refPlaysSpec.pre6 enc Tryz.prog Tryz.f3 Rows.refPlaysRow.domain false) (Rows.refPlaysSpec.post enc Tryz.prog Tryz.f3 false true false false) := by
 refine returnsInHanded_of_change (C := Tryz.checked) own_knob started (by kernel_rfl) Tryz.func3
  (ChangeSpec.witness6 (enc := enc) (C := Tryz.checked) false ⟨#[], #[.slice none 0 0, .bool false, .slice none 0 0], []⟩ 8 (by kernel_rfl) (by kernel_rfl) (by kernel_rfl) (by kernel_rfl)) ?_
 intro W base args ds gs before hval0 hW _ _
 have hval : ∀ (j : Nat) t v, Tryz.f3.params[j]? = some t → args[j]? = some v → Value.okWide Tryz.prog W .any base t v := hval0
 have hW' := hW
 obtain ⟨p, q, hA0, hV, rfl, _, _⟩ := hW
 have hA : DataW.TrodAll enc Tryz.prog W 0 (fun _ => true) true Tryz.f3.params.toList args.toList ds p := hA0
 obtain ⟨rfl, rfl⟩ := trodVars_none hV
 simp only [List.append_nil] at hW'
 have hlt : ∀ x ∈ p, x.block < W.heap.size := fun x hx => hW'.lt x hx
 have hA2 := hA
 rw [Tryz.params3] at hA2 hval
 obtain ⟨v0, v1, v2, d0, d1, d2, p0, p1, p2, rfl, rfl, rfl, h0, h1, h2⟩ := trodAll_three hA2
 obtain ⟨A0, c0, ss0, rfl, hr0, hc0, hl0, hs0⟩ := open_intsA Tryz.underlying22 Tryz.underlying3 cells_int (okWide_slice Tryz.underlying22 (hval 0 22 v0 rfl rfl)) h0 (fun x hx => hlt x (by simp [hx]))
 obtain ⟨t1, rfl, rfl, rfl⟩ := open_bool Tryz.underlying4 (hval 1 4 v1 rfl rfl) h1
 obtain ⟨A2, c2, l2, rfl, hr2, hc2, hl2, hs2⟩ := open_rops (okWide_slice Tryz.underlying23 (hval 2 23 v2 rfl rfl)) h2 (fun x hx => hlt x (by simp [hx]))
 refine (rplays_main ss0 t1 l2 A0 A2 c0 c2 W hr0 hl0 hs0 hr2 hl2 hs2).mono fun e W' ⟨he, hb⟩ => ?_
 subst he
 exact ⟨_, rfl, law_post Tryz.f3 Rows.refPlaysSpec rfl rfl (of_decide_eq_true (by kernel_rfl)) hW' hA rfl rfl rfl hb⟩

theorem rplays_holds : Rows.RefPlaysSaid :=
 OpenClaim.holds_of_wide 3 Tryz.f3 rfl rfl rfl rfl rfl rfl rfl ⟨rfl, rfl, rfl, rfl, rfl⟩ rfl rfl rfl rfl rfl (by kernel_rfl) Tryz.func3 (by kernel_rfl)
  (of_decide_eq_true (by kernel_rfl)) (by unfold Func.isWrapper; first | (rw [if_pos (by decide +kernel)]; kernel_rfl) | (rw [if_neg (by decide +kernel)]; exact ⟨rfl, rfl⟩))
  (fun os started H enc _ => rplays_lifted os started H enc)
#print axioms rplays_holds
end Go.Proofs.YtnpkplegeddhcaaGreat
