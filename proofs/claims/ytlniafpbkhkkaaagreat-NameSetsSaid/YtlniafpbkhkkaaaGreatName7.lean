/-
  Chapter 2's first call.
-/
import Derived.Test.YtlniafpbkhkkaaaGreatName6
namespace Go.Proofs.YtlniafpbkhkkaaaGreat
open Go.RowKit Go.Maps Go.Sort

theorem v1 : validS ⟨#[65, 49]⟩ = true := by kernel_rfl
theorem v2 : validS ⟨#[49, 65]⟩ = false := by kernel_rfl
theorem k1 : cmpS ⟨#[65]⟩ ⟨#[65, 66]⟩ = -1 := by kernel_rfl
theorem sz1 : Maps.size (setS [⟨#[65]⟩]) = 1 := by kernel_rfl
theorem sz2 : Maps.size (addS (setS [⟨#[65]⟩]) [⟨#[65]⟩, ⟨#[66]⟩, ⟨#[66]⟩]) = 2 := by kernel_rfl
theorem hs2 : hasS (addS (setS [⟨#[65]⟩]) [⟨#[65]⟩, ⟨#[66]⟩, ⟨#[66]⟩]) ⟨#[66]⟩ = true := by kernel_rfl
theorem ks2 : strKeys (setS [⟨#[66]⟩, ⟨#[65]⟩, ⟨#[66]⟩]) = [[65], [66]] := by kernel_rfl
theorem srt2 : srt [⟨#[66]⟩, ⟨#[65]⟩, ⟨#[66]⟩] = [⟨#[65]⟩, ⟨#[66]⟩] := by
  unfold srt lstS
  rw [ks2, List.mergeSort_of_pairwise (by decide)]
  rfl

set_option maxHeartbeats 4000000 in
set_option maxRecDepth 100000 in
theorem alive2_any (w : World) : Calls Tryz.prog 6 #[] w fun e w' => e = .returned (.bool true) ∧ Below w.heap.size w w' := by
  go_enter Tryz.func6, Tryz.ntmps6
  go_wp2_with fail
  refine (newset_any [⟨#[65]⟩] _ _ _ (by decide) (reads_newV _ _ _ _ rfl rfl rfl (by simp)) (fun _ ad e => by injection e with e; subst e; simp) (by intro s hs; simp at hs; subst hs; decide)).mono ?_
  rintro e w1 ⟨rfl, hS1, hb1⟩
  rw [World.size_alloc] at hS1
  have HS1 := Lib.hid hS1
  have HB1 : Hid (Below w.heap.size w w1) := by show Below _ _ _; exact ((Below.refl w.heap.size w).alloc (Nat.le_refl _) _).trans (hb1.mono (by simp))
  have hz1 : w.heap.size + 1 < w1.heap.size := by have := hS1.lt; simpa using this
  clear hS1 hb1
  go_wp2_with fail
  refine (sort_any [⟨#[66]⟩, ⟨#[65]⟩, ⟨#[66]⟩] _ _ _ (by decide) (reads_newV _ _ _ _ rfl rfl rfl (by simp)) (fun _ ad e => by injection e with e; subst e; simp) (by intro s hs; simp only [List.mem_cons, List.not_mem_nil, or_false] at hs; rcases hs with rfl | rfl | rfl <;> decide)).mono ?_
  rintro e w2 ⟨A2, c2, rfl, hr2, hA2, hb2⟩
  rw [srt2] at hr2 ⊢
  obtain ⟨ad, rfl, hab, hc⟩ := hr2.2 (by decide)
  have c0 : w2.cell? ad = some (.string ⟨#[65]⟩) := by have h := hc 0 _ rfl; rw [show ad.add 0 = ad from by unfold Addr.add; rfl] at h; exact h
  have HB2 : Hid (Below w.heap.size w w2) := by show Below _ _ _; exact (HB1.out.alloc HB1.out.size _).trans (hb2.mono (by have := HB1.out.size; simp; omega))
  have HS2 : Hid (SetAt (w.heap.size + 1) (w.heap.size + 1 + 1) (setS [⟨#[65]⟩]) w2) := by
    show SetAt _ _ _ _
    exact (HS1.out.alloc _).below hb2 (by simp; omega) (by have := HS1.out.ltb; simp; omega)
  clear hr2 hA2 hb2 hc HS1 HB1
  have H1 := fun w => Lib.hid (valid_any ⟨#[65, 49]⟩ w)
  have H2 := fun w => Lib.hid (valid_any ⟨#[49, 65]⟩ w)
  have H3 := fun w => Lib.hid (compare_any ⟨#[65]⟩ ⟨#[65, 66]⟩ w)
  rw [v1] at H1
  rw [v2] at H2
  rw [k1] at H3
  go_wp2_with fail
  refine (H1 _).out.mono ?_
  rintro e w3 ⟨rfl, rfl⟩
  go_wp2_with fail
  refine (H2 _).out.mono ?_
  rintro e w3 ⟨rfl, rfl⟩
  go_wp2_with fail
  refine (H3 _).out.mono ?_
  rintro e w3 ⟨rfl, rfl⟩
  go_wp2_with fail
  have hlt2 := HS2.out.ltb
  refine (addset_any (w.heap.size + 1) (w.heap.size + 1 + 1) (setS [⟨#[65]⟩]) [⟨#[65]⟩, ⟨#[66]⟩, ⟨#[66]⟩] _ _ _ (HS2.out.alloc _) (goodS_set _) (by rw [sz1]; decide) (reads_newV _ _ _ _ rfl rfl rfl (by simp)) (fun _ ad e => by injection e with e; subst e; constructor <;> simp <;> omega) (by intro s hs; simp only [List.mem_cons, List.not_mem_nil, or_false] at hs; rcases hs with rfl | rfl | rfl <;> decide)).mono ?_
  rintro e w3 ⟨rfl, hS3, hm3⟩
  rw [sz1, sz2]
  have HS3 := Lib.hid hS3
  have HB3 : Hid (Below w.heap.size w w3) := by
    show Below _ _ _
    exact (HB2.out.alloc HB2.out.size _).trans (hm3.below (fun k hk => by simp at hk; omega) (by have := HB2.out.size; simp; omega))
  clear hS3 hm3 HS2 HB2
  go_wp2_with fail
  refine (has_any _ _ _ ⟨#[66]⟩ (by decide) _ HS3.out).mono ?_
  rintro e w4 ⟨rfl, hb4⟩
  rw [hs2]
  have HS4 := Lib.hid (HS3.out.below hb4 HS3.out.lt HS3.out.ltb)
  have HB4 := Lib.hid (HB3.out.trans (hb4.mono HB3.out.size))
  clear hb4
  go_wp2_with fail
  refine (len_any _ _ _ _ HS4.out).mono ?_
  rintro e w5 ⟨rfl, rfl⟩
  rw [sz2]
  go_wp2
  go_ret
  exact ⟨rfl, HB4.out⟩
end Go.Proofs.YtlniafpbkhkkaaaGreat
