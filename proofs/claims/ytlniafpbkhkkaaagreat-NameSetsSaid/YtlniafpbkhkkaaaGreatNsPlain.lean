/-
  Sets of texts beside a sorted list of them, in plain words.
  Conditions: none beyond each lemma's own premises.
-/
import Derived.Test.YtlniafpbkhkkaaaGreatNs1
namespace Go.Proofs.YtlniafpbkhkkaaaGreat
open Go.RowKit Go.Maps Go.Sort

theorem strict_lst {D : DataW Unit} (hg : GoodS D) : StrictS (lstS D) := by
  unfold StrictS lstS
  rw [List.pairwise_map]
  have h1 : ((strKeys D).mergeSort leB).Pairwise (fun a b => leB a b = true) := List.pairwise_mergeSort (fun a b c h1 h2 => by
    simp only [leB, decide_eq_true_eq] at *
    exact List.le_trans h1 h2) (fun a b => by
    simp only [leB, Bool.or_eq_true, decide_eq_true_eq]
    exact List.le_total a b) _
  have h2 : ((strKeys D).mergeSort leB).Pairwise (· ≠ ·) := (List.mergeSort_perm _ _).nodup_iff.2 (strKeys_nodup hg)
  refine (h1.and h2).imp ?_
  rintro a b ⟨h, hne⟩
  simp only [leB, decide_eq_true_eq] at h
  show a < b
  rcases List.le_iff_lt_or_eq.1 h with h | h
  · exact h
  · exact absurd h hne
theorem lst_of {D : DataW Unit} (hg : GoodS D) {o : List ByteArray} (h : StrictS o) (hm : ∀ s, s ∈ o ↔ hasS D s = true) : o = lstS D := by
  rw [← strict_srt h]
  exact lstS_ext (goodS_set o) hg fun s => by rw [hasS_set]; exact hm s
theorem add_has {D : DataW Unit} (hg : GoodS D) {s : ByteArray} (h : s ∈ lstS D) : addOne D s = D := by
  unfold addOne
  rw [if_pos ((mem_lstS hg s).1 h)]
theorem add_new {D : DataW Unit} (hg : GoodS D) {s : ByteArray} (h : s ∉ lstS D) : srt (lstS D ++ [s]) = lstS (addOne D s) ∧ Maps.size (addOne D s) = Maps.size D + 1 := by
  refine ⟨lstS_ext (goodS_set _) (hg.one s) fun x => ?_, ?_⟩
  · rw [hasS_set, hasS_one hg, List.mem_append, List.mem_singleton, mem_lstS hg]
    exact Or.comm
  · have hn : ¬ hasS D s = true := fun e => h ((mem_lstS hg s).2 e)
    have h2 := size_put (k := kS s) hg.1 (.agg [] : DataW Unit)
    unfold addOne
    rw [if_neg hn, h2]
    have : Maps.has D (kS s) = false := by
      have := hn
      unfold hasS at this
      simpa using this
    simp [this]
theorem del_filter {D : DataW Unit} (hg : GoodS D) (L : List ByteArray) : (lstS D).filter (fun s => !inL L s) = lstS (delS D L) := by
  refine lst_of (hg.dels L) (List.Pairwise.sublist List.filter_sublist (strict_lst hg)) fun s => ?_
  rw [List.mem_filter, hasS_dels, mem_lstS hg]
  have h1 : (!inL L s) = true ↔ s ∉ L := by rw [← inL_iff]; simp
  rw [h1]
  exact And.comm
theorem filter_snoc {N L : List ByteArray} {j : Nat} {s : ByteArray} (h : N[j]? = some s) : (N.take (j + 1)).filter (fun s => !inL L s) = (N.take j).filter (fun s => !inL L s) ++ (if inL L s = true then [] else [s]) := by
  rw [take_snoc h, List.filter_append]
  cases hs : inL L s <;> simp [hs]
end Go.Proofs.YtlniafpbkhkkaaaGreat
