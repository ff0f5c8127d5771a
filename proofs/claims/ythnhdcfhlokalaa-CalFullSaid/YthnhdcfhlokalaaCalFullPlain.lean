/-
  The plain law of CalFull: the holidays of a calendar that was closed on more days.
  Conditions: each lemma's own premises. No program's run is in sight here.
-/
import Derived.Test.YthnhdcfhlokalaaCalWeeksPlain
namespace Go.Proofs.Ythnhdcfhlokalaa
open Go.RowKit Go.Maps Go.Sort Go.Shelf

theorem mem_insert {x p : Lit × DataW Unit} : ∀ {l : List (Lit × DataW Unit)}, p ∈ DataW.insert x l → p = x ∨ p ∈ l
  | [], h => by simp [DataW.insert] at h; exact .inl h
  | y :: r, h => by
    unfold DataW.insert at h
    split at h
    · rcases List.mem_cons.1 h with h | h
      · exact .inl h
      · exact .inr h
    · rcases List.mem_cons.1 h with h | h
      · exact .inr (by simp [h])
      · rcases mem_insert h with h | h
        · exact .inl h
        · exact .inr (by simp [h])
/-- A map of ints, each once. -/
def Good (D : DataW Unit) : Prop := Tidy D ∧ ∃ es, D = .map es ∧ ∀ p ∈ es, ∃ x, p.1 = .int .i64 x
theorem Good.put {D : DataW Unit} (h : Good D) (d : Int) : Good (D.put (.int .i64 d) (.agg [])) := by
  obtain ⟨h1, es, rfl, h2⟩ := h
  refine ⟨h1.put (by simp [WideAt.IsKeyLit]) _, _, rfl, fun p hp => ?_⟩
  rcases mem_insert hp with rfl | hp
  · exact ⟨d, rfl⟩
  · exact h2 p ((List.mem_filter.1 hp).1)
theorem good_add {D : DataW Unit} (h : Good D) (l : List Int) : Good (addD D l) := by
  induction l generalizing D with
  | nil => exact h
  | cons d l ih => exact ih (h.put d)
theorem setD_add (l : List Int) : setD l = addD (.map []) l := by
  unfold setD setOf addD
  rw [List.foldl_map]
theorem good_set (l : List Int) : Good (setD l) := by
  rw [setD_add]
  exact good_add ⟨tidy_empty, [], rfl, by simp⟩ l
theorem size_add {D : DataW Unit} (h : Good D) (l : List Int) : Maps.size D ≤ Maps.size (addD D l) ∧ Maps.size (addD D l) ≤ Maps.size D + l.length := by
  induction l generalizing D with
  | nil => exact ⟨Nat.le_refl _, Nat.le_refl _⟩
  | cons d l ih =>
    have h1 := ih (h.put d)
    have h2 := size_put (k := .int .i64 d) h.1 (.agg [])
    have e : addD D (d :: l) = addD (D.put (.int .i64 d) (.agg [])) l := rfl
    rw [e, List.length_cons]
    split at h2 <;> omega
theorem size_set (l : List Int) : Maps.size (setD l) ≤ l.length := by
  rw [setD_add]
  have := (size_add (D := .map []) ⟨tidy_empty, [], rfl, by simp⟩ l).2
  have e : Maps.size (DataW.map [] : DataW Unit) = 0 := rfl
  omega
theorem hol_size {D : DataW Unit} (h : Good D) : (hol D).length = Maps.size D := by
  obtain ⟨_, es, rfl, _⟩ := h
  rw [hol_len, size_eq]
  exact List.length_map ..
theorem hol_nodup {D : DataW Unit} (h : Good D) : (hol D).Nodup := by
  obtain ⟨⟨es, rfl, hp⟩, es', he, hk⟩ := h
  injection he with he
  subst he
  refine (List.mergeSort_perm _ _).nodup_iff.2 ?_
  show (es.map fun p => _root_.Go.intOf p.1).Nodup
  refine List.pairwise_map.2 (hp.imp_of_mem fun {p q} hp' hq' hne e => hne ?_)
  obtain ⟨a, ha⟩ := hk p hp'
  obtain ⟨b, hb⟩ := hk q hq'
  rw [ha, hb] at e ⊢
  have : a = b := e
  rw [this]
theorem hol_rises {D : DataW Unit} (h : Good D) {j : Nat} {a b : Int} (h0 : (hol D)[j]? = some a) (h1 : (hol D)[j + 1]? = some b) : a < b := by
  have hs : (hol D).Pairwise (fun a b => decide (a ≤ b) = true) := List.pairwise_mergeSort (fun a b c h1 h2 => by simp only [decide_eq_true_eq] at *; omega) (fun a b => by simp only [Bool.or_eq_true, decide_eq_true_eq]; omega) _
  have hn := hol_nodup h
  obtain ⟨l0, rfl⟩ := List.getElem?_eq_some_iff.1 h0
  obtain ⟨l1, rfl⟩ := List.getElem?_eq_some_iff.1 h1
  have h2 := List.pairwise_iff_getElem.1 hs j (j + 1) l0 l1 (by omega)
  have h3 := List.pairwise_iff_getElem.1 hn j (j + 1) l0 l1 (by omega)
  simp only [decide_eq_true_eq] at h2
  omega
theorem errMore_is (D : DataW Unit) (l : List Int) : errMore D l = 0 ∨ errMore D l = 17 ∨ errMore D l = 2 := by
  unfold errMore
  split
  · exact .inr (.inl rfl)
  · split
    · exact .inr (.inr rfl)
    · exact .inl rfl
theorem errMore_ok {D : DataW Unit} {l : List Int} (h : errMore D l = 0) : Maps.size (addD D l) ≤ 300 := by
  unfold errMore at h
  split at h
  · cases h
  · split at h
    · cases h
    · omega
theorem isB_more {D : DataW Unit} (h : Good D) {l : List Int} {d : Int} (hd : d ∈ l) : isB (addD D l) d = false := by
  unfold isB
  rw [hasD_addD D h.1.isMap, show l.contains d = true from by simpa using hd]
  simp
end Go.Proofs.Ythnhdcfhlokalaa
