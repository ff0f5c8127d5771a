/-
  NameOwns proved: an owned set does what a set does, and has its owner: for every input the law returns true.
  Conditions: none.
-/
import Derived.Test.YtlniafpbkhkkaaaNameOwns
import Derived.Test.YtlniafpbkhkkaaaHold
import Derived.SizedLaws
namespace Go.Proofs.Ytlniafpbkhkkaaa
open Go.ChangeShapes Go.WideShapes Go.ChangeAt Go.RowKit
open Go.ChangeMaps (open_string)

set_option maxRecDepth 100000 in
theorem nowns_lifted (os : Os) (started : os.Started) (H : Type) (enc : TypeId × Value → H) :
    ReturnsInHanded {} Try.checked os 7 .any (Rows.nameOwnsSpec.pre6 enc Try.prog Try.f7 Rows.nameOwnsRow.domain false) (Rows.nameOwnsSpec.post enc Try.prog Try.f7 false true false false) := by
  refine returnsInHanded_of_change_sized (C := Try.checked) own_knob started (by kernel_rfl) Try.func7
    (ChangeSpec.witness6 (enc := enc) (C := Try.checked) false ⟨#[], #[.string ⟨#[]⟩, .slice none 0 0, .slice none 0 0], []⟩ 8 (by kernel_rfl) (by kernel_rfl) (by kernel_rfl) (by kernel_rfl)) ?_
  intro W base args ds gs before hval0 hW _ hsz0 _
  have hval : ∀ (j : Nat) t v, Try.f7.params[j]? = some t → args[j]? = some v → Value.okWide Try.prog W .any base t v := hval0
  have hW' := hW
  obtain ⟨p, q, hA0, hV, rfl, _, _⟩ := hW
  have hA : DataW.TrodAll enc Try.prog W 0 (fun _ => true) true Try.f7.params.toList args.toList ds p := hA0
  obtain ⟨rfl, rfl⟩ := trodVars_none hV
  simp only [List.append_nil] at hW'
  have hlt : ∀ x ∈ p, x.block < W.heap.size := fun x hx => hW'.lt x hx
  have hA2 := hA
  rw [Try.params7] at hA2 hval
  obtain ⟨v0, v1, v2, d0, d1, d2, p0, p1, p2, rfl, rfl, rfl, h0, h1, h2⟩ := trodAll_three hA2
  obtain ⟨s0, rfl, rfl, rfl, ws0⟩ := open_string Try.underlying9 (hval 0 9 v0 rfl rfl) h0
  obtain ⟨A1, c1, ss1, rfl, hr1, hc1, hl1, hs1⟩ := open_texts Try.underlying22 Try.underlying9 cells_string (okWide_slice Try.underlying22 (hval 1 22 v1 rfl rfl)) h1 (fun x hx => hlt x (by simp [hx]))
  obtain ⟨A2, c2, ss2, rfl, hr2, hc2, hl2, hs2⟩ := open_texts Try.underlying22 Try.underlying9 cells_string (okWide_slice Try.underlying22 (hval 2 22 v2 rfl rfl)) h2 (fun x hx => hlt x (by simp [hx]))
  have hs9 : s0.size ≤ 281474976710656 := by
    have h := sized_string hsz0 (j := 0) (t := 9) (bytes := s0.data.toList) (by kernel_rfl) rfl
    have e : s0.data.toList.length = s0.size := rfl
    have := reachBytes_lt
    omega
  refine (nowns_walk s0 hs9 ss1 ss2 A1 A2 c1 c2 W hr1 hr2 hl1 hl2 hs1 hs2).mono fun e W' ⟨he, hb⟩ => ?_
  subst he
  exact ⟨_, rfl, law_post Try.f7 Rows.nameOwnsSpec rfl rfl (of_decide_eq_true (by kernel_rfl)) hW' hA rfl rfl rfl hb⟩

theorem nowns_holds : Rows.NameOwnsSaid :=
  OpenClaim.holds_of_wide 7 Try.f7 rfl rfl rfl rfl rfl rfl rfl ⟨rfl, rfl, rfl, rfl, rfl⟩ rfl rfl rfl rfl rfl (by kernel_rfl) Try.func7 (by kernel_rfl)
    (of_decide_eq_true (by kernel_rfl)) (by unfold Func.isWrapper; first | (rw [if_pos (by decide +kernel)]; kernel_rfl) | (rw [if_neg (by decide +kernel)]; exact ⟨rfl, rfl⟩))
    (fun os started H enc _ => nowns_lifted os started H enc)
#print axioms nowns_holds
end Go.Proofs.Ytlniafpbkhkkaaa
