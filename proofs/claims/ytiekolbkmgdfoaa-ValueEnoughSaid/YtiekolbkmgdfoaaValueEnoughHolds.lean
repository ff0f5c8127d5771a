/-
  ValueEnough proved: what can be picked for so much can be picked for less; for nothing nothing is picked; more stocks behind change nothing: for every input the law returns true.
  Conditions: none.
-/
import Derived.Test.YtiekolbkmgdfoaaValueEnough
import Derived.Test.YtiekolbkmgdfoaaHold
import Derived.Test.YtiekolbkmgdfoaaOpenSts
namespace Go.Proofs.Ytiekolbkmgdfoaa
open Go.ChangeShapes Go.WideShapes Go.ChangeAt Go.RowKit
open Go.ChangeMaps (open_string)

set_option maxRecDepth 100000 in
theorem enough20_lifted (os : Os) (started : os.Started) (H : Type) (enc : TypeId × Value → H) :
    ReturnsInHanded {} Try.checked os 4 .any (Rows.valueEnoughSpec.pre6 enc Try.prog Try.f4 Rows.valueEnoughRow.domain false) (Rows.valueEnoughSpec.post enc Try.prog Try.f4 false true false false) := by
  refine returnsInHanded_of_change (C := Try.checked) own_knob started (by kernel_rfl) Try.func4
    (ChangeSpec.witness6 (enc := enc) (C := Try.checked) false ⟨#[], #[.int .i64 0, .int .i64 0, .slice none 0 0, .slice none 0 0], []⟩ 8 (by kernel_rfl) (by kernel_rfl) (by kernel_rfl) (by kernel_rfl)) ?_
  intro W base args ds gs before hval0 hW _ _
  have hval : ∀ (j : Nat) t v, Try.f4.params[j]? = some t → args[j]? = some v → Value.okWide Try.prog W .any base t v := hval0
  have hW' := hW
  obtain ⟨p, q, hA0, hV, rfl, _, _⟩ := hW
  have hA : DataW.TrodAll enc Try.prog W 0 (fun _ => true) true Try.f4.params.toList args.toList ds p := hA0
  obtain ⟨rfl, rfl⟩ := trodVars_none hV
  simp only [List.append_nil] at hW'
  have hlt : ∀ x ∈ p, x.block < W.heap.size := fun x hx => hW'.lt x hx
  have hA2 := hA
  rw [Try.params4] at hA2 hval
  obtain ⟨v0, v1, v2, v3, d0, d1, d2, d3, p0, p1, p2, p3, rfl, rfl, rfl, h0, h1, h2, h3⟩ := trodAll_four hA2
  obtain ⟨x0, rfl, rfl, rfl, w0⟩ := open_int Try.underlying3 (hval 0 3 v0 rfl rfl) h0
  have b0 := bounds_i64 w0
  obtain ⟨x1, rfl, rfl, rfl, w1⟩ := open_int Try.underlying3 (hval 1 3 v1 rfl rfl) h1
  have b1 := bounds_i64 w1
  obtain ⟨A2, c2, l2, rfl, hr2, hc2, hl2, hs2⟩ := open_stocks (okWide_slice Try.underlying22 (hval 2 22 v2 rfl rfl)) h2 (fun x hx => hlt x (by simp [hx]))
  obtain ⟨A3, c3, l3, rfl, hr3, hc3, hl3, hs3⟩ := open_stocks (okWide_slice Try.underlying22 (hval 3 22 v3 rfl rfl)) h3 (fun x hx => hlt x (by simp [hx]))
  refine (enough_walk x0 x1 l2 l3 A2 A3 c2 c3 W b0.1 b0.2 b1.1 b1.2 hr2 hr3 hl2 hl3 hs2 hs3).mono fun e W' ⟨he, hb⟩ => ?_
  subst he
  exact ⟨_, rfl, law_post Try.f4 Rows.valueEnoughSpec rfl rfl (of_decide_eq_true (by kernel_rfl)) hW' hA rfl rfl rfl hb⟩

theorem enough20_holds : Rows.ValueEnoughSaid :=
  OpenClaim.holds_of_wide 4 Try.f4 rfl rfl rfl rfl rfl rfl rfl ⟨rfl, rfl, rfl, rfl, rfl⟩ rfl rfl rfl rfl rfl (by kernel_rfl) Try.func4 (by kernel_rfl)
    (of_decide_eq_true (by kernel_rfl)) (by unfold Func.isWrapper; first | (rw [if_pos (by decide +kernel)]; kernel_rfl) | (rw [if_neg (by decide +kernel)]; exact ⟨rfl, rfl⟩))
    (fun os started H enc _ => enough20_lifted os started H enc)
#print axioms enough20_holds
end Go.Proofs.Ytiekolbkmgdfoaa
