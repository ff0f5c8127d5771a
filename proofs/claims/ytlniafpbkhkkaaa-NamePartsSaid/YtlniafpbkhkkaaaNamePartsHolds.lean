/-
  NameParts proved: what a name begins with is a name; with another byte in it, or too long, it is none: for every input the law returns true.
  Conditions: none.
-/
import Derived.Test.YtlniafpbkhkkaaaNamePartsC
import Derived.Test.YtlniafpbkhkkaaaHold
import Derived.SizedLaws
namespace Go.Proofs.Ytlniafpbkhkkaaa
open Go.ChangeShapes Go.WideShapes Go.ChangeAt Go.RowKit
open Go.ChangeMaps (open_string)

set_option maxRecDepth 100000 in
theorem nparts_lifted (os : Os) (started : os.Started) (H : Type) (enc : TypeId × Value → H) :
    ReturnsInHanded {} Try.checked os 4 .any (Rows.namePartsSpec.pre6 enc Try.prog Try.f4 Rows.namePartsRow.domain false) (Rows.namePartsSpec.post enc Try.prog Try.f4 false true false false) := by
  refine returnsInHanded_of_change_sized (C := Try.checked) own_knob started (by kernel_rfl) Try.func4
    (ChangeSpec.witness6 (enc := enc) (C := Try.checked) false ⟨#[], #[.string ⟨#[]⟩, .int .i64 0, .int .u8 0], []⟩ 8 (by kernel_rfl) (by kernel_rfl) (by kernel_rfl) (by kernel_rfl)) ?_
  intro W base args ds gs before hval0 hW _ hsz0 _
  have hval : ∀ (j : Nat) t v, Try.f4.params[j]? = some t → args[j]? = some v → Value.okWide Try.prog W .any base t v := hval0
  have hW' := hW
  obtain ⟨p, q, hA0, hV, rfl, _, _⟩ := hW
  have hA : DataW.TrodAll enc Try.prog W 0 (fun _ => true) true Try.f4.params.toList args.toList ds p := hA0
  obtain ⟨rfl, rfl⟩ := trodVars_none hV
  simp only [List.append_nil] at hW'
  have hA2 := hA
  rw [Try.params4] at hA2 hval
  obtain ⟨v0, v1, v2, d0, d1, d2, p0, p1, p2, rfl, rfl, rfl, h0, h1, h2⟩ := trodAll_three hA2
  obtain ⟨s0, rfl, rfl, rfl, ws0⟩ := open_string Try.underlying9 (hval 0 9 v0 rfl rfl) h0
  obtain ⟨x1, rfl, rfl, rfl, w1⟩ := open_int Try.underlying3 (hval 1 3 v1 rfl rfl) h1
  have b1 := bounds_i64 w1
  obtain ⟨x2, rfl, rfl, rfl, w2⟩ := open_int Try.underlying5 (hval 2 5 v2 rfl rfl) h2
  have b2 := bounds_u8 w2
  have hs9 : s0.size ≤ 281474976710656 := by
    have h := sized_string hsz0 (j := 0) (t := 9) (bytes := s0.data.toList) (by kernel_rfl) rfl
    have e : s0.data.toList.length = s0.size := rfl
    have := reachBytes_lt
    omega
  obtain ⟨c, rfl⟩ : ∃ c : Nat, x2 = c := ⟨x2.toNat, by omega⟩
  refine (nparts_walk s0 x1 c hs9 b1.1 b1.2 (by omega) W).mono fun e W' ⟨he, hb⟩ => ?_
  subst he
  exact ⟨_, rfl, law_post Try.f4 Rows.namePartsSpec rfl rfl (of_decide_eq_true (by kernel_rfl)) hW' hA rfl rfl rfl hb⟩

theorem nparts_holds : Rows.NamePartsSaid :=
  OpenClaim.holds_of_wide 4 Try.f4 rfl rfl rfl rfl rfl rfl rfl ⟨rfl, rfl, rfl, rfl, rfl⟩ rfl rfl rfl rfl rfl (by kernel_rfl) Try.func4 (by kernel_rfl)
    (of_decide_eq_true (by kernel_rfl)) (by unfold Func.isWrapper; first | (rw [if_pos (by decide +kernel)]; kernel_rfl) | (rw [if_neg (by decide +kernel)]; exact ⟨rfl, rfl⟩))
    (fun os started H enc _ => nparts_lifted os started H enc)
#print axioms nparts_holds
end Go.Proofs.Ytlniafpbkhkkaaa
