/-
  What is in a set is in its list.
  Conditions: as the lemma says.
-/
import Derived.Test.YtjhinifmdjlblaaGreatNamePlain
namespace Go.Proofs.YtjhinifmdjlblaaGreat
open Go.RowKit Go.Maps Go.Sort

theorem mem_lstS {D : DataW Unit} (h : GoodS D) (s : ByteArray) : s ∈ lstS D ↔ hasS D s = true := by
  obtain ⟨_, es, rfl, hk⟩ := h
  unfold lstS
  rw [List.mem_map]
  unfold hasS
  rw [has_eq, List.any_eq_true]
  constructor
  · rintro ⟨x, hx, rfl⟩
    rw [List.mem_mergeSort] at hx
    obtain ⟨p, hp, rfl⟩ := List.mem_map.1 (show x ∈ es.map (fun p => strOf p.1) from hx)
    obtain ⟨a, ha⟩ := hk p hp
    exact ⟨p, hp, by rw [ha]; simp [strOf, kS, Lit.sameKey]⟩
  · rintro ⟨p, hp, h⟩
    obtain ⟨a, ha⟩ := hk p hp
    have e := WideAt.sameKey_eq h
    refine ⟨a, ?_, ?_⟩
    · rw [List.mem_mergeSort]
      exact List.mem_map.2 ⟨p, hp, by rw [ha]; rfl⟩
    · rw [ha] at e
      unfold kS at e
      injection e with e
      rw [e]
end Go.Proofs.YtjhinifmdjlblaaGreat
