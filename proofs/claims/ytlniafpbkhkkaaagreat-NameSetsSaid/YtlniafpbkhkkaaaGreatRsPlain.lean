/-
  The document's order of texts, in plain words: a strictly sorted list is its own sorted set; what comes first, byte by byte.
  Conditions: none beyond each lemma's own premises.
-/
import Derived.Test.YtlniafpbkhkkaaaGreatOrdersPlain
namespace Go.Proofs.YtlniafpbkhkkaaaGreat
open Go.RowKit Go.Maps Go.Sort

theorem strKeys_nodup {D : DataW Unit} (h : GoodS D) : (strKeys D).Nodup := by
  obtain ⟨ht, es, rfl, hk⟩ := h
  obtain ⟨_, e1, hp⟩ := ht
  injection e1 with e1
  subst e1
  show (es.map fun p => strOf p.1).Nodup
  refine List.pairwise_map.2 (hp.imp_of_mem fun {p q} hp' hq' hne e => hne ?_)
  obtain ⟨a, ha⟩ := hk p hp'
  obtain ⟨b, hb⟩ := hk q hq'
  rw [ha, hb] at e ⊢
  exact congrArg _ e
def StrictS (l : List ByteArray) : Prop := l.Pairwise fun a b => a.data.toList < b.data.toList
theorem toList_data (a : ByteArray) : a.toList = a.data.toList := ByteArray.toList_eq a
theorem mk_data (a : ByteArray) : (⟨a.data.toList.toArray⟩ : ByteArray) = a := by cases a; simp
theorem mem_keys (l : List ByteArray) (x : List UInt8) : x ∈ strKeys (setS l) ↔ (⟨x.toArray⟩ : ByteArray) ∈ l := by
  rw [← mem_srt l]
  unfold srt lstS
  rw [List.mem_map]
  constructor
  · intro h
    exact ⟨x, List.mem_mergeSort.2 h, rfl⟩
  · rintro ⟨y, hy, e⟩
    have : y = x := by
      have h := congrArg (fun b : ByteArray => b.data.toList) e
      simpa using h
    subst this
    exact List.mem_mergeSort.1 hy
theorem strict_srt {l : List ByteArray} (h : StrictS l) : srt l = l := by
  have nd : (l.map fun a => a.data.toList).Nodup := List.pairwise_map.2 (h.imp fun hlt e => by rw [e] at hlt; exact absurd hlt (List.lt_irrefl _))
  have hp : (strKeys (setS l)).Perm (l.map fun a => a.data.toList) := (List.perm_ext_iff_of_nodup (strKeys_nodup (goodS_set l)) nd).2 fun x => by
    rw [mem_keys, List.mem_map]
    constructor
    · intro hx
      exact ⟨_, hx, by simp⟩
    · rintro ⟨a, ha, rfl⟩
      rw [mk_data]
      exact ha
  have e : (l.map fun a => a.data.toList).mergeSort leB = l.map fun a => a.data.toList := List.mergeSort_of_pairwise (List.pairwise_map.2 (h.imp fun hlt => by
    have := List.le_of_lt hlt
    simpa [leB] using this))
  unfold srt lstS
  rw [mergeSort_of_perm hp, e, List.map_map]
  conv => rhs; rw [← List.map_id l]
  exact List.map_congr_left fun a _ => mk_data a
/-- A list that is strictly sorted and has the texts of another one. -/
theorem srt_is {l o : List ByteArray} (h : StrictS o) (hm : ∀ s, s ∈ o ↔ s ∈ l) : o = srt l := by
  rw [← strict_srt h]
  exact srt_ext hm
theorem strict_insert {o : List ByteArray} {x : ByteArray} {k : Nat} (h : StrictS o) (h1 : ∀ j a, j < k → o[j]? = some a → a.data.toList < x.data.toList) (h2 : ∀ a, o[k]? = some a → x.data.toList < a.data.toList) : StrictS (o.take k ++ [x] ++ o.drop k) := by
  have hd : ∀ a ∈ o.drop k, x.data.toList < a.data.toList := by
    intro a ha
    cases hk : o[k]? with
    | none =>
      have : o.drop k = [] := List.drop_eq_nil_of_le (List.getElem?_eq_none_iff.1 hk)
      rw [this] at ha; cases ha
    | some b =>
      have hlt := (List.getElem?_eq_some_iff.1 hk).1
      have hb := h2 b hk
      have e : o.drop k = b :: o.drop (k + 1) := by
        rw [List.drop_eq_getElem_cons hlt]
        congr 1
        exact (List.getElem?_eq_some_iff.1 hk).2
      rw [e] at ha
      rcases List.mem_cons.1 ha with rfl | ha
      · exact hb
      · have hs : (b :: o.drop (k + 1)).Pairwise fun a b => a.data.toList < b.data.toList := by rw [← e]; exact List.Pairwise.sublist (List.drop_sublist _ _) h
        exact List.lt_trans hb ((List.pairwise_cons.1 hs).1 a ha)
  have ht : ∀ a ∈ o.take k, a.data.toList < x.data.toList := by
    intro a ha
    obtain ⟨j, hj⟩ := List.getElem?_of_mem ha
    rw [List.getElem?_take] at hj
    split at hj
    · rename_i hlt; exact h1 j a hlt hj
    · cases hj
  unfold StrictS
  rw [List.append_assoc, List.pairwise_append]
  refine ⟨List.Pairwise.sublist (List.take_sublist _ _) h, ?_, ?_⟩
  · rw [List.singleton_append, List.pairwise_cons]
    exact ⟨hd, List.Pairwise.sublist (List.drop_sublist _ _) h⟩
  · intro a ha b hb
    rcases List.mem_append.1 hb with hb | hb
    · obtain rfl := List.mem_singleton.1 hb
      exact ht a ha
    · exact List.lt_trans (ht a ha) (hd b hb)
theorem mem_insertAt {o : List ByteArray} {x s : ByteArray} {k : Nat} : s ∈ o.take k ++ [x] ++ o.drop k ↔ s ∈ o ∨ s = x := by
  conv => rhs; rw [← List.take_append_drop k o]
  simp only [List.mem_append, List.mem_singleton]
  constructor
  · rintro ((h | h) | h)
    · exact .inl (.inl h)
    · exact .inr h
    · exact .inl (.inr h)
  · rintro ((h | h) | h)
    · exact .inl (.inl h)
    · exact .inr h
    · exact .inl (.inr h)
theorem less_iff (a b : ByteArray) : lessS a b = true ↔ a.data.toList < b.data.toList := by rw [lessS_iff, toList_data, toList_data]
theorem cmp_neg (a b : ByteArray) : cmpS a b < 0 ↔ a.data.toList < b.data.toList := by
  rcases cmp_cases a b with ⟨h, h1⟩ | ⟨h, h1⟩ | ⟨h, h1, h2⟩
  · rw [toList_data, toList_data] at h1
    exact ⟨fun _ => h1, fun _ => by omega⟩
  · rw [toList_data, toList_data] at h1
    exact ⟨fun _ => by omega, fun h2 => absurd h1 (List.lt_asymm h2)⟩
  · rw [toList_data, toList_data] at h1
    exact ⟨fun _ => by omega, fun h2 => absurd h2 h1⟩
/-- Byte by byte. -/
theorem cmp_first {a b : ByteArray} {i : Nat} (ha : i < a.size) (hb : i < b.size) (he : a.data.toList.take i = b.data.toList.take i) (hlt : a[i].toNat < b[i].toNat) : cmpS a b = -1 := by
  have h : a.data.toList < b.data.toList := by
    rw [List.lt_iff_exists]
    refine .inr ⟨i, by simpa using ha, by simpa using hb, fun j hj => ?_, ?_⟩
    · have h1 : (a.data.toList.take i)[j]? = (b.data.toList.take i)[j]? := by rw [he]
      rw [List.getElem?_take, List.getElem?_take, if_pos hj, if_pos hj] at h1
      rw [List.getElem?_eq_getElem (by simp; omega), List.getElem?_eq_getElem (by simp; omega)] at h1
      injection h1
    · simp only [Array.getElem_toList]
      exact UInt8.lt_iff_toNat_lt.2 hlt
  have := (cmp_neg a b).2 h
  rcases cmp_cases a b with ⟨h, _⟩ | ⟨h, _⟩ | ⟨h, _⟩ <;> omega
theorem cmp_first' {a b : ByteArray} {i : Nat} (ha : i < a.size) (hb : i < b.size) (he : a.data.toList.take i = b.data.toList.take i) (hlt : b[i].toNat < a[i].toNat) : cmpS a b = 1 := by
  have := cmp_first hb ha he.symm hlt
  have := cmp_swap b a
  omega
theorem cmp_short {a b : ByteArray} (he : a.data.toList.take a.size = b.data.toList.take a.size) (hlt : a.size < b.size) : cmpS a b = -1 := by
  have h : a.data.toList < b.data.toList := by
    rw [List.lt_iff_exists]
    left
    have e : a.data.toList.length = a.size := by simp
    rw [List.take_of_length_le (by omega)] at he
    exact ⟨by rw [e]; exact he, by simpa using hlt⟩
  have := (cmp_neg a b).2 h
  rcases cmp_cases a b with ⟨h, _⟩ | ⟨h, _⟩ | ⟨h, _⟩ <;> omega
theorem cmp_short' {a b : ByteArray} (he : a.data.toList.take b.size = b.data.toList.take b.size) (hlt : b.size < a.size) : cmpS a b = 1 := by
  have := cmp_short he.symm hlt
  have := cmp_swap b a
  omega
theorem cmp_whole {a b : ByteArray} (he : a.data.toList.take a.size = b.data.toList.take a.size) (hs : a.size = b.size) : cmpS a b = 0 := by
  rw [cmp_zero]
  have e : a.data.toList.length = a.size := by simp
  have e' : b.data.toList.length = a.size := by rw [hs]; simp
  rw [List.take_of_length_le (by omega), List.take_of_length_le (by omega)] at he
  exact of_data he
end Go.Proofs.YtlniafpbkhkkaaaGreat
