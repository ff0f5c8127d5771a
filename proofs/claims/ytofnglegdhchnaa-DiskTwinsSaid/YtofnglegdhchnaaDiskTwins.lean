/-
  DiskTwins: a twin is the same in all; what happens to the one does not to the other.
  Conditions: steps in memory, texts.
-/
import Derived.Test.YtofnglegdhchnaaDLight
import Derived.Test.YtofnglegdhchnaaDiskKeeps
import Derived.Test.YtofnglegdhchnaaSameT
namespace Go.Proofs.Ytofnglegdhchnaa
open Go.RowKit Go.Maps Go.Sort

/-- A disk that has power and no fuse, and no more than there is room for. -/
structure TInv (st : Dk) : Prop where
  ok : st.Ok
  on : st.on = true
  fu : st.fused = false
  few : Maps.size st.fs ≤ 40
  tot : totF st.fs ≤ 400000
theorem tinv_new : TInv newDk := ⟨newDk_ok, rfl, rfl, by decide, by decide⟩
theorem opD_off {st : Dk} (h : TInv st) : (opD st).2 = false ∧ TInv (opD st).1 ∧ (opD st).1.fs = st.fs := by
  have h1 := opD_ok h.ok
  have e : opD st = (⟨st.on, false, st.left, min (st.ops + 1) 4611686018427387904, st.fs⟩, false) := by unfold opD; rw [if_neg (by rw [h.fu]; decide)]
  rw [e] at h1 ⊢
  exact ⟨rfl, ⟨h1, h.on, rfl, h.few, h.tot⟩, rfl⟩
theorem TInv.with_ {st : Dk} (h : TInv st) {fs : DataW Unit} (hg : GoodF fs) (hf : Maps.size fs ≤ 40) (ht : totF fs ≤ 400000) : TInv (st.with fs) :=
  ⟨⟨hg, h.ok.ops0, h.ok.ops1, h.ok.left0, h.ok.left1, by show Maps.size fs ≤ _; omega, by show totF fs ≤ _; omega⟩, h.on, h.fu, hf, ht⟩
theorem tinv_do {st : Dk} (h : TInv st) (W : Dk → Int) (K : Dk → Dk) (hK : ∀ x, TInv x → W x = 0 → TInv (K x)) : TInv (doD st W K).2 := by
  obtain ⟨h1, h2, _⟩ := opD_off h
  unfold doD
  rw [if_pos h.on, if_neg (by rw [h1]; decide)]
  by_cases hw : W (opD st).1 = 0
  · rw [if_pos hw]
    exact hK _ h2 hw
  · rw [if_neg hw]
    exact h2
theorem tinv_create {st : Dk} (h : TInv st) (s : ByteArray) : TInv (createD st s).2 := tinv_do h _ _ fun x hx hw => by
  have hg := hx.ok.good
  unfold createW at hw
  by_cases hv : validB s = true
  · rw [if_pos hv] at hw
    by_cases hh : hasS x.fs s = true
    · rw [if_pos hh] at hw; omega
    · rw [if_neg hh] at hw
      by_cases h40 : 40 ≤ Maps.size x.fs
      · rw [if_pos h40] at hw; omega
      · have hs := sizeF_put hg s ⟨#[]⟩ 0
        rw [if_neg hh] at hs
        have ht := totF_put_le hg s ⟨#[]⟩ 0
        have e : (⟨#[]⟩ : ByteArray).size = 0 := rfl
        have := hx.tot
        exact hx.with_ (hg.put s _ (Int.le_refl _) (Int.le_refl _)) (by omega) (by omega)
  · rw [if_neg hv] at hw; omega
theorem lacks_zero {x : Dk} {s : ByteArray} (hw : lacksD x s = 0) : hasS x.fs s = true := by
  unfold lacksD at hw
  by_cases hh : hasS x.fs s = true
  · exact hh
  · rw [if_neg hh] at hw; omega
theorem tinv_sync {st : Dk} (h : TInv st) (s : ByteArray) : TInv (syncD st s).2 := tinv_do h _ _ fun x hx hw => by
  have hg := hx.ok.good
  have hh := lacks_zero hw
  have hs := sizeF_put hg s (fileAt x.fs s).1 ((fileAt x.fs s).1.size : Nat)
  rw [if_pos hh] at hs
  have t1 := totF_del hg s
  have t2 := totF_put hg s (fileAt x.fs s).1 ((fileAt x.fs s).1.size : Nat)
  have := hx.tot
  have := hx.few
  exact hx.with_ (hg.put s _ (by omega) (Int.le_refl _)) (by omega) (by omega)
theorem tinv_append {st : Dk} (h : TInv st) (s x : ByteArray) : TInv (appendD st s x).2 := by
  obtain ⟨h1, h2, _⟩ := opD_off h
  unfold appendD
  rw [if_pos h.on]
  show TInv (if appendW (opD st).1 s x = 0 then putsD (opD st).1 s x else (opD st).1)
  obtain ⟨y, hy⟩ : ∃ y, (opD st).1 = y := ⟨_, rfl⟩
  rw [hy] at h2 ⊢
  by_cases hw : appendW y s x = 0
  · rw [if_pos hw]
    unfold appendW at hw
    have hg := h2.ok.good
    by_cases hh : hasS y.fs s = true
    · rw [if_pos hh] at hw
      by_cases hf : 400000 < totF y.fs + x.size
      · rw [if_pos hf] at hw; omega
      · obtain ⟨_, a0, a1⟩ := fileAt_form hg s
        have hsz := size_app (fileAt y.fs s).1 x
        have hs := sizeF_put hg s ((fileAt y.fs s).1 ++ x) (fileAt y.fs s).2
        rw [if_pos hh] at hs
        have t1 := totF_del hg s
        have t2 := totF_put hg s ((fileAt y.fs s).1 ++ x) (fileAt y.fs s).2
        have := h2.few
        exact h2.with_ (hg.put s _ a0 (by omega)) (by omega) (by omega)
    · rw [if_neg hh] at hw; omega
  · rw [if_neg hw]
    exact h2
end Go.Proofs.Ytofnglegdhchnaa
