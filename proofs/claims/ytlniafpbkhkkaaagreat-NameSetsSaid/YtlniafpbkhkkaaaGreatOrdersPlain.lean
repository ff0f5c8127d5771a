/-
  The order of texts, and sorting in pieces, in plain words.
  Conditions: as each lemma says.
-/
import Derived.Test.YtlniafpbkhkkaaaGreatNameShort
namespace Go.Proofs.YtlniafpbkhkkaaaGreat
open Go.RowKit Go.Maps Go.Sort

theorem lessS_iff (a b : ByteArray) : lessS a b = true ↔ a.toList < b.toList := by unfold lessS; rw [bytesLess_eq]; simp
theorem cmp_cases (a b : ByteArray) : (cmpS a b = -1 ∧ a.toList < b.toList) ∨ (cmpS a b = 1 ∧ b.toList < a.toList) ∨ (cmpS a b = 0 ∧ ¬ a.toList < b.toList ∧ ¬ b.toList < a.toList) := by
  unfold cmpS
  by_cases h1 : lessS a b = true
  · rw [if_pos h1]; exact .inl ⟨rfl, (lessS_iff a b).1 h1⟩
  · rw [if_neg h1]
    have h1' : ¬ a.toList < b.toList := fun h => h1 ((lessS_iff a b).2 h)
    by_cases h2 : lessS b a = true
    · rw [if_pos h2]; exact .inr (.inl ⟨rfl, (lessS_iff b a).1 h2⟩)
    · rw [if_neg h2]
      exact .inr (.inr ⟨rfl, h1', fun h => h2 ((lessS_iff b a).2 h)⟩)
theorem toList_inj {a b : ByteArray} (h : a.toList = b.toList) : a = b := bytes_eq_iff.1 (by rw [h]; exact beq_self_eq_true _)
theorem cmp_zero (a b : ByteArray) : cmpS a b = 0 ↔ a = b := by
  constructor
  · intro h
    rcases cmp_cases a b with ⟨h1, _⟩ | ⟨h1, _⟩ | ⟨_, h2, h3⟩
    · omega
    · omega
    · exact toList_inj (List.le_antisymm (List.not_lt.1 h3) (List.not_lt.1 h2))
  · rintro rfl
    rcases cmp_cases a a with ⟨_, h⟩ | ⟨_, h⟩ | ⟨h, _⟩
    · exact absurd h (List.lt_irrefl _)
    · exact absurd h (List.lt_irrefl _)
    · exact h
theorem cmp_swap (a b : ByteArray) : cmpS b a = - cmpS a b := by
  rcases cmp_cases a b with ⟨h1, h2⟩ | ⟨h1, h2⟩ | ⟨h1, h2, h3⟩ <;> rcases cmp_cases b a with ⟨k1, k2⟩ | ⟨k1, k2⟩ | ⟨k1, k2, k3⟩ <;> rw [h1, k1] <;> first | rfl | exact absurd k2 (List.lt_asymm h2) | exact absurd h2 k3 | exact absurd h2 k2 | exact absurd k2 h3 | exact absurd k2 h2
theorem cmp_le (a b : ByteArray) : cmpS a b ≤ 0 ↔ a.toList ≤ b.toList := by
  rcases cmp_cases a b with ⟨h1, h2⟩ | ⟨h1, h2⟩ | ⟨h1, h2, h3⟩
  · rw [h1]; exact ⟨fun _ => List.not_lt.1 (List.lt_asymm h2), fun _ => by omega⟩
  · rw [h1]; exact ⟨fun h => by omega, fun h => absurd h2 (List.not_lt.2 h)⟩
  · rw [h1]; exact ⟨fun _ => List.not_lt.1 h3, fun _ => by omega⟩
theorem cmp_trans {a b c : ByteArray} (h : cmpS a b ≤ 0) (k : cmpS b c ≤ 0) : cmpS a c ≤ 0 := (cmp_le a c).2 (List.le_trans ((cmp_le a b).1 h) ((cmp_le b c).1 k))
theorem cmp_trans2 {a b c : ByteArray} (h : 0 ≤ cmpS a b) (k : 0 ≤ cmpS b c) : 0 ≤ cmpS a c := by
  have := cmp_swap a b
  have := cmp_swap b c
  have h2 := cmp_trans (a := c) (b := b) (c := a) (by omega) (by omega)
  have := cmp_swap a c
  omega

theorem mem_lstS {D : DataW Unit} (h : GoodS D) (s : ByteArray) : s ∈ lstS D ↔ hasS D s = true := by
  obtain ⟨_, es, rfl, hk⟩ := h
  unfold lstS
  rw [List.mem_map]
  unfold hasS
  rw [has_eq, List.any_eq_true]
  constructor
  · rintro ⟨x, hx, rfl⟩
    rw [List.mem_mergeSort] at hx
    obtain ⟨p, hp, rfl⟩ := List.mem_map.1 (show x ∈ es.map (fun p => strOf p.1) from hx)
    obtain ⟨a, ha⟩ := hk p hp
    exact ⟨p, hp, by rw [ha]; simp [strOf, kS, Lit.sameKey]⟩
  · rintro ⟨p, hp, h⟩
    obtain ⟨a, ha⟩ := hk p hp
    have e := WideAt.sameKey_eq h
    refine ⟨a, ?_, ?_⟩
    · rw [List.mem_mergeSort]
      exact List.mem_map.2 ⟨p, hp, by rw [ha]; rfl⟩
    · rw [ha] at e
      unfold kS at e
      injection e with e
      rw [e]
theorem mem_srt (l : List ByteArray) (s : ByteArray) : s ∈ srt l ↔ s ∈ l := by unfold srt; rw [mem_lstS (goodS_set l), hasS_set]
theorem srt_ext {a b : List ByteArray} (h : ∀ s, s ∈ a ↔ s ∈ b) : srt a = srt b := lstS_ext (goodS_set a) (goodS_set b) fun s => by rw [hasS_set, hasS_set, h]
theorem srt_srt (l : List ByteArray) : srt (srt l) = srt l := srt_ext (mem_srt l)
theorem srt_parts (l : List ByteArray) (k : Nat) : srt (srt (l.take k) ++ srt (l.drop k)) = srt l := srt_ext fun s => by
  rw [List.mem_append, mem_srt, mem_srt, ← List.mem_append, List.take_append_drop]
theorem srt_len (l : List ByteArray) : (srt l).length ≤ l.length := by unfold srt; rw [lstS_len (goodS_set l)]; exact size_set l
end Go.Proofs.YtlniafpbkhkkaaaGreat
