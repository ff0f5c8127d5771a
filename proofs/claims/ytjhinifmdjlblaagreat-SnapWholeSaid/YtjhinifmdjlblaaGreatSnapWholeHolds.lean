/-
  SnapWhole proved: wherever the power fails, in a Save too, opened anew there is the picture that was saved last with the groups behind it, or the one under way: for every input the law returns true.
  Conditions: none.
-/
import Derived.Test.YtjhinifmdjlblaaGreatSnapWhole
import Derived.Test.YtjhinifmdjlblaaGreatHoldInts
namespace Go.Proofs.YtjhinifmdjlblaaGreat
open Go.ChangeShapes Go.WideShapes Go.ChangeAt Go.RowKit
open Go.ChangeMaps (open_string)

set_option maxRecDepth 100000 in
theorem swhole_lifted (os : Os) (started : os.Started) (H : Type) (enc : TypeId × Value → H) :
    ReturnsInHanded {} Tryz.checked os 5 .any (Rows.snapWholeSpec.pre6 enc Tryz.prog Tryz.f5 Rows.snapWholeRow.domain false) (Rows.snapWholeSpec.post enc Tryz.prog Tryz.f5 false true false false) := by
  refine returnsInHanded_of_change (C := Tryz.checked) own_knob started (by kernel_rfl) Tryz.func5
    (ChangeSpec.witness6 (enc := enc) (C := Tryz.checked) false ⟨#[], #[.slice none 0 0, .int .i64 0, .slice none 0 0], []⟩ 8 (by kernel_rfl) (by kernel_rfl) (by kernel_rfl) (by kernel_rfl)) ?_
  intro W base args ds gs before hval0 hW _ _
  have hval : ∀ (j : Nat) t v, Tryz.f5.params[j]? = some t → args[j]? = some v → Value.okWide Tryz.prog W .any base t v := hval0
  have hW' := hW
  obtain ⟨p, q, hA0, hV, rfl, _, _⟩ := hW
  have hA : DataW.TrodAll enc Tryz.prog W 0 (fun _ => true) true Tryz.f5.params.toList args.toList ds p := hA0
  obtain ⟨rfl, rfl⟩ := trodVars_none hV
  simp only [List.append_nil] at hW'
  have hlt : ∀ x ∈ p, x.block < W.heap.size := fun x hx => hW'.lt x hx
  have hA2 := hA
  rw [Tryz.params5] at hA2 hval
  obtain ⟨v0, v1, v2, d0, d1, d2, p0, p1, p2, rfl, rfl, rfl, h0, h1, h2⟩ := trodAll_three hA2
  obtain ⟨A0, c0, l0, rfl, hr0, hc0, hl0, hs0⟩ := open_zops (okWide_slice Tryz.underlying42 (hval 0 42 v0 rfl rfl)) h0 (fun x hx => hlt x (by simp [hx]))
  obtain ⟨x1, rfl, rfl, rfl, w1⟩ := open_int Tryz.underlying3 (hval 1 3 v1 rfl rfl) h1
  have b1 := bounds_i64 w1
  obtain ⟨A2, c2, ss2, rfl, hr2, hc2, hl2, hs2⟩ := open_intsA Tryz.underlying43 Tryz.underlying3 cells_int (okWide_slice Tryz.underlying43 (hval 2 43 v2 rfl rfl)) h2 (fun x hx => hlt x (by simp [hx]))
  refine (swhole_walk l0 A0 c0 x1 ss2 A2 c2 W hr0 hl0 hs0 b1.1 b1.2 hr2 hl2 hs2).mono fun e W' ⟨he, hb⟩ => ?_
  subst he
  exact ⟨_, rfl, law_post Tryz.f5 Rows.snapWholeSpec rfl rfl (of_decide_eq_true (by kernel_rfl)) hW' hA rfl rfl rfl hb⟩

theorem swhole_holds : Rows.SnapWholeSaid :=
  OpenClaim.holds_of_wide 5 Tryz.f5 rfl rfl rfl rfl rfl rfl rfl ⟨rfl, rfl, rfl, rfl, rfl⟩ rfl rfl rfl rfl rfl (by kernel_rfl) Tryz.func5 (by kernel_rfl)
    (of_decide_eq_true (by kernel_rfl)) (by unfold Func.isWrapper; first | (rw [if_pos (by decide +kernel)]; kernel_rfl) | (rw [if_neg (by decide +kernel)]; exact ⟨rfl, rfl⟩))
    (fun os started H enc _ => swhole_lifted os started H enc)
#print axioms swhole_holds
end Go.Proofs.YtjhinifmdjlblaaGreat
