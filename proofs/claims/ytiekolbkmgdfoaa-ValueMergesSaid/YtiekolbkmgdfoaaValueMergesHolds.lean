/-
  ValueMerges proved: pledges merged in pieces are pledges merged at once, and the worth of two lists is the sum of theirs or an error: for every input the law returns true.
  Conditions: none.
-/
import Derived.Test.YtiekolbkmgdfoaaValueMerges
import Derived.Test.YtiekolbkmgdfoaaHold
import Derived.Test.YtiekolbkmgdfoaaOpenSts
namespace Go.Proofs.Ytiekolbkmgdfoaa
open Go.ChangeShapes Go.WideShapes Go.ChangeAt Go.RowKit
open Go.ChangeMaps (open_string)

set_option maxRecDepth 100000 in
theorem merges20_lifted (os : Os) (started : os.Started) (H : Type) (enc : TypeId × Value → H) :
    ReturnsInHanded {} Try.checked os 6 .any (Rows.valueMergesSpec.pre6 enc Try.prog Try.f6 Rows.valueMergesRow.domain false) (Rows.valueMergesSpec.post enc Try.prog Try.f6 false true false false) := by
  refine returnsInHanded_of_change (C := Try.checked) own_knob started (by kernel_rfl) Try.func6
    (ChangeSpec.witness6 (enc := enc) (C := Try.checked) false ⟨#[], #[.slice none 0 0, .slice none 0 0, .slice none 0 0, .slice none 0 0], []⟩ 8 (by kernel_rfl) (by kernel_rfl) (by kernel_rfl) (by kernel_rfl)) ?_
  intro W base args ds gs before hval0 hW _ _
  have hval : ∀ (j : Nat) t v, Try.f6.params[j]? = some t → args[j]? = some v → Value.okWide Try.prog W .any base t v := hval0
  have hW' := hW
  obtain ⟨p, q, hA0, hV, rfl, _, _⟩ := hW
  have hA : DataW.TrodAll enc Try.prog W 0 (fun _ => true) true Try.f6.params.toList args.toList ds p := hA0
  obtain ⟨rfl, rfl⟩ := trodVars_none hV
  simp only [List.append_nil] at hW'
  have hlt : ∀ x ∈ p, x.block < W.heap.size := fun x hx => hW'.lt x hx
  have hA2 := hA
  rw [Try.params6] at hA2 hval
  obtain ⟨v0, v1, v2, v3, d0, d1, d2, d3, p0, p1, p2, p3, rfl, rfl, rfl, h0, h1, h2, h3⟩ := trodAll_four hA2
  obtain ⟨A0, c0, l0, rfl, hr0, hc0, hl0, hs0⟩ := open_pledges (okWide_slice Try.underlying28 (hval 0 28 v0 rfl rfl)) h0 (fun x hx => hlt x (by simp [hx]))
  obtain ⟨A1, c1, l1, rfl, hr1, hc1, hl1, hs1⟩ := open_pledges (okWide_slice Try.underlying28 (hval 1 28 v1 rfl rfl)) h1 (fun x hx => hlt x (by simp [hx]))
  obtain ⟨A2, c2, l2, rfl, hr2, hc2, hl2, hs2⟩ := open_stocks (okWide_slice Try.underlying22 (hval 2 22 v2 rfl rfl)) h2 (fun x hx => hlt x (by simp [hx]))
  obtain ⟨A3, c3, l3, rfl, hr3, hc3, hl3, hs3⟩ := open_stocks (okWide_slice Try.underlying22 (hval 3 22 v3 rfl rfl)) h3 (fun x hx => hlt x (by simp [hx]))
  refine (merges_walk l0 l1 l2 l3 A0 A1 A2 A3 c0 c1 c2 c3 W hr0 hr1 hr2 hr3 hl0 hl1 hl2 hl3 hs0 hs1 hs2 hs3).mono fun e W' ⟨he, hb⟩ => ?_
  subst he
  exact ⟨_, rfl, law_post Try.f6 Rows.valueMergesSpec rfl rfl (of_decide_eq_true (by kernel_rfl)) hW' hA rfl rfl rfl hb⟩

theorem merges20_holds : Rows.ValueMergesSaid :=
  OpenClaim.holds_of_wide 6 Try.f6 rfl rfl rfl rfl rfl rfl rfl ⟨rfl, rfl, rfl, rfl, rfl⟩ rfl rfl rfl rfl rfl (by kernel_rfl) Try.func6 (by kernel_rfl)
    (of_decide_eq_true (by kernel_rfl)) (by unfold Func.isWrapper; first | (rw [if_pos (by decide +kernel)]; kernel_rfl) | (rw [if_neg (by decide +kernel)]; exact ⟨rfl, rfl⟩))
    (fun os started H enc _ => merges20_lifted os started H enc)
#print axioms merges20_holds
end Go.Proofs.Ytiekolbkmgdfoaa
