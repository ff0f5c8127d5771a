/-
  NameBack proved: what is added and taken out again leaves a set as it was; how many were told is how many there are more, and fewer: for every input the law returns true.
  Conditions: none.
-/
import Derived.Test.YtlniafpbkhkkaaaNameBack
import Derived.Test.YtlniafpbkhkkaaaHold
namespace Go.Proofs.Ytlniafpbkhkkaaa
open Go.ChangeShapes Go.WideShapes Go.ChangeAt Go.RowKit
open Go.ChangeMaps (open_string)

set_option maxRecDepth 100000 in
theorem nback_lifted (os : Os) (started : os.Started) (H : Type) (enc : TypeId × Value → H) :
    ReturnsInHanded {} Try.checked os 6 .any (Rows.nameBackSpec.pre6 enc Try.prog Try.f6 Rows.nameBackRow.domain false) (Rows.nameBackSpec.post enc Try.prog Try.f6 false true false false) := by
  refine returnsInHanded_of_change (C := Try.checked) own_knob started (by kernel_rfl) Try.func6
    (ChangeSpec.witness6 (enc := enc) (C := Try.checked) false ⟨#[], #[.slice none 0 0, .slice none 0 0], []⟩ 8 (by kernel_rfl) (by kernel_rfl) (by kernel_rfl) (by kernel_rfl)) ?_
  intro W base args ds gs before hval0 hW _ _
  have hval : ∀ (j : Nat) t v, Try.f6.params[j]? = some t → args[j]? = some v → Value.okWide Try.prog W .any base t v := hval0
  have hW' := hW
  obtain ⟨p, q, hA0, hV, rfl, _, _⟩ := hW
  have hA : DataW.TrodAll enc Try.prog W 0 (fun _ => true) true Try.f6.params.toList args.toList ds p := hA0
  obtain ⟨rfl, rfl⟩ := trodVars_none hV
  simp only [List.append_nil] at hW'
  have hlt : ∀ x ∈ p, x.block < W.heap.size := fun x hx => hW'.lt x hx
  have hA2 := hA
  rw [Try.params6] at hA2 hval
  obtain ⟨v0, v1, d0, d1, p0, p1, rfl, rfl, rfl, h0, h1⟩ := trodAll_two hA2
  obtain ⟨A0, c0, ss0, rfl, hr0, hc0, hl0, hs0⟩ := open_texts Try.underlying22 Try.underlying9 cells_string (okWide_slice Try.underlying22 (hval 0 22 v0 rfl rfl)) h0 (fun x hx => hlt x (by simp [hx]))
  obtain ⟨A1, c1, ss1, rfl, hr1, hc1, hl1, hs1⟩ := open_texts Try.underlying22 Try.underlying9 cells_string (okWide_slice Try.underlying22 (hval 1 22 v1 rfl rfl)) h1 (fun x hx => hlt x (by simp [hx]))
  refine (nback_walk ss0 ss1 A0 A1 c0 c1 W hr0 hr1 hl0 hl1 hs0 hs1).mono fun e W' ⟨he, hb⟩ => ?_
  subst he
  exact ⟨_, rfl, law_post Try.f6 Rows.nameBackSpec rfl rfl (of_decide_eq_true (by kernel_rfl)) hW' hA rfl rfl rfl hb⟩

theorem nback_holds : Rows.NameBackSaid :=
  OpenClaim.holds_of_wide 6 Try.f6 rfl rfl rfl rfl rfl rfl rfl ⟨rfl, rfl, rfl, rfl, rfl⟩ rfl rfl rfl rfl rfl (by kernel_rfl) Try.func6 (by kernel_rfl)
    (of_decide_eq_true (by kernel_rfl)) (by unfold Func.isWrapper; first | (rw [if_pos (by decide +kernel)]; kernel_rfl) | (rw [if_neg (by decide +kernel)]; exact ⟨rfl, rfl⟩))
    (fun os started H enc _ => nback_lifted os started H enc)
#print axioms nback_holds
end Go.Proofs.Ytlniafpbkhkkaaa
