/-
  NameSets proved: every set, owned or not, and every call, in every order: for every input the law returns true.
  Conditions: none.
-/
import Derived.Test.YtlniafpbkhkkaaaGreatNameSets
import Derived.SizedLaws
import Derived.Test.YtlniafpbkhkkaaaGreatHold
import Derived.Test.YtlniafpbkhkkaaaGreatNOps
namespace Go.Proofs.YtlniafpbkhkkaaaGreat
open Go.ChangeShapes Go.WideShapes Go.ChangeAt Go.RowKit
open Go.ChangeMaps (open_string)

set_option maxRecDepth 100000 in
theorem nsets_lifted (os : Os) (started : os.Started) (H : Type) (enc : TypeId × Value → H) :
    ReturnsInHanded {} Tryz.checked os 4 .any (Rows.nameSetsSpec.pre6 enc Tryz.prog Tryz.f4 Rows.nameSetsRow.domain false) (Rows.nameSetsSpec.post enc Tryz.prog Tryz.f4 false true false false) := by
  refine returnsInHanded_of_change_sized (C := Tryz.checked) own_knob started (by kernel_rfl) Tryz.func4
    (ChangeSpec.witness6 (enc := enc) (C := Tryz.checked) false ⟨#[], #[.slice none 0 0, .string ⟨#[]⟩, .bool false, .bool false, .slice none 0 0], []⟩ 8 (by kernel_rfl) (by kernel_rfl) (by kernel_rfl) (by kernel_rfl)) ?_
  intro W base args ds gs before hval0 hW _ hsz0 _
  have hval : ∀ (j : Nat) t v, Tryz.f4.params[j]? = some t → args[j]? = some v → Value.okWide Tryz.prog W .any base t v := hval0
  have hW' := hW
  obtain ⟨p, q, hA0, hV, rfl, _, _⟩ := hW
  have hA : DataW.TrodAll enc Tryz.prog W 0 (fun _ => true) true Tryz.f4.params.toList args.toList ds p := hA0
  obtain ⟨rfl, rfl⟩ := trodVars_none hV
  simp only [List.append_nil] at hW'
  have hlt : ∀ x ∈ p, x.block < W.heap.size := fun x hx => hW'.lt x hx
  have hA2 := hA
  rw [Tryz.params4] at hA2 hval
  obtain ⟨v0, v1, v2, v3, v4, d0, d1, d2, d3, d4, p0, p1, p2, p3, p4, rfl, rfl, rfl, h0, h1, h2, h3, h4⟩ := trodAll_five hA2
  obtain ⟨A0, c0, ss0, rfl, hr0, hc0, hl0, hs0⟩ := open_texts Tryz.underlying22 Tryz.underlying9 cells_string (okWide_slice Tryz.underlying22 (hval 0 22 v0 rfl rfl)) h0 (fun x hx => hlt x (by simp [hx]))
  obtain ⟨s1, rfl, rfl, rfl, ws1⟩ := open_string Tryz.underlying9 (hval 1 9 v1 rfl rfl) h1
  obtain ⟨t2, rfl, rfl, rfl⟩ := open_bool Tryz.underlying4 (hval 2 4 v2 rfl rfl) h2
  obtain ⟨t3, rfl, rfl, rfl⟩ := open_bool Tryz.underlying4 (hval 3 4 v3 rfl rfl) h3
  obtain ⟨A4, c4, l4, rfl, hr4, hc4, hl4, hs4⟩ := open_nops (okWide_slice Tryz.underlying52 (hval 4 52 v4 rfl rfl)) h4 (fun x hx => hlt x (by simp [hx]))
  have hs9_1 : s1.size ≤ 281474976710656 := by
    have h := sized_string hsz0 (j := 1) (t := 9) (bytes := s1.data.toList) (by kernel_rfl) rfl
    have e : s1.data.toList.length = s1.size := rfl
    have := reachBytes_lt
    omega
  refine (nsets_walk ss0 s1 t2 t3 l4 A0 A4 c0 c4 W hr0 hl0 hs0 hr4 hl4 hs4 hs9_1).mono fun e W' ⟨he, hb⟩ => ?_
  subst he
  exact ⟨_, rfl, law_post Tryz.f4 Rows.nameSetsSpec rfl rfl (of_decide_eq_true (by kernel_rfl)) hW' hA rfl rfl rfl hb⟩

theorem nsets_holds : Rows.NameSetsSaid :=
  OpenClaim.holds_of_wide 4 Tryz.f4 rfl rfl rfl rfl rfl rfl rfl ⟨rfl, rfl, rfl, rfl, rfl⟩ rfl rfl rfl rfl rfl (by kernel_rfl) Tryz.func4 (by kernel_rfl)
    (of_decide_eq_true (by kernel_rfl)) (by unfold Func.isWrapper; first | (rw [if_pos (by decide +kernel)]; kernel_rfl) | (rw [if_neg (by decide +kernel)]; exact ⟨rfl, rfl⟩))
    (fun os started H enc _ => nsets_lifted os started H enc)
#print axioms nsets_holds
end Go.Proofs.YtlniafpbkhkkaaaGreat
