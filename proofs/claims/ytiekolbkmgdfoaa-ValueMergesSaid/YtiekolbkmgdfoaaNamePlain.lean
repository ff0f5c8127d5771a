/-
  Sets of texts, in plain words: what is in a set that grew, or lost some; its list.
  Conditions: as each lemma says.
-/
import Derived.Maps.OwnSet
import Derived.Maps.OwnOps
import Derived.Sort.KeysCollected
import Derived.Test.YtiekolbkmgdfoaaAid
namespace Go.Proofs.Ytiekolbkmgdfoaa
open Go.RowKit Go.Maps Go.Sort

def kS (s : ByteArray) : Lit := .string s.data.toList
theorem kS_inj {a b : ByteArray} (h : kS a = kS b) : a = b := by
  unfold kS at h
  injection h with h
  obtain ⟨a⟩ := a
  obtain ⟨b⟩ := b
  exact congrArg ByteArray.mk (Array.toList_inj.1 h)
theorem kS_key (s : ByteArray) : WideAt.IsKeyLit (kS s) := by simp [WideAt.IsKeyLit, kS]
def hasS (D : DataW Unit) (s : ByteArray) : Bool := Maps.has D (kS s)
/-- One text more, if it is not there. -/
def addOne (D : DataW Unit) (s : ByteArray) : DataW Unit := if hasS D s = true then D else D.put (kS s) (.agg [])
def addS (D : DataW Unit) (l : List ByteArray) : DataW Unit := l.foldl addOne D
def delS (D : DataW Unit) (l : List ByteArray) : DataW Unit := l.foldl (fun m s => m.del (kS s)) D
def setS (l : List ByteArray) : DataW Unit := addS (.map []) l
def lstS (D : DataW Unit) : List ByteArray := ((strKeys D).mergeSort leB).map fun x => ⟨x.toArray⟩
theorem addS_step {D : DataW Unit} {l : List ByteArray} {k : Nat} {d : ByteArray} (h : l[k]? = some d) : addS D (l.take (k + 1)) = addOne (addS D (l.take k)) d := by
  unfold addS
  rw [take_snoc h, List.foldl_append]
  rfl
theorem delS_step {D : DataW Unit} {l : List ByteArray} {k : Nat} {d : ByteArray} (h : l[k]? = some d) : delS D (l.take (k + 1)) = (delS D (l.take k)).del (kS d) := by
  unfold delS
  rw [take_snoc h, List.foldl_append]
  rfl

theorem delS_none (l : List ByteArray) : delS (.map []) l = .map [] := by
  unfold delS
  induction l with
  | nil => rfl
  | cons x l ih => exact ih
theorem mem_insert {x p : Lit × DataW Unit} : ∀ {l : List (Lit × DataW Unit)}, p ∈ DataW.insert x l → p = x ∨ p ∈ l
  | [], h => .inl (by simpa [DataW.insert] using h)
  | y :: l, h => by
    unfold DataW.insert at h
    split at h
    · simp only [List.mem_cons] at h
      rcases h with h | h | h
      · exact .inl h
      · exact .inr (by simp [h])
      · exact .inr (by simp [h])
    · simp only [List.mem_cons] at h
      rcases h with h | h
      · exact .inr (by simp [h])
      · rcases mem_insert h with h | h
        · exact .inl h
        · exact .inr (by simp [h])
/-- A map whose keys are texts. -/
def GoodS (D : DataW Unit) : Prop := Tidy D ∧ ∃ es, D = .map es ∧ ∀ p ∈ es, ∃ x, p.1 = .string x
theorem goodS_none : GoodS (.map []) := ⟨tidy_empty, [], rfl, by simp⟩
theorem GoodS.put {D : DataW Unit} (h : GoodS D) (s : ByteArray) : GoodS (D.put (kS s) (.agg [])) := by
  obtain ⟨ht, es, rfl, hk⟩ := h
  refine ⟨ht.put (kS_key s) _, _, rfl, fun p hp => ?_⟩
  rcases mem_insert hp with h | h
  · exact ⟨_, by rw [h]; rfl⟩
  · exact hk p ((List.mem_filter.1 h).1)
theorem GoodS.one {D : DataW Unit} (h : GoodS D) (s : ByteArray) : GoodS (addOne D s) := by
  unfold addOne
  split
  · exact h
  · exact h.put s
theorem GoodS.del {D : DataW Unit} (h : GoodS D) (s : ByteArray) : GoodS (D.del (kS s)) := by
  obtain ⟨ht, es, rfl, hk⟩ := h
  exact ⟨ht.del _, _, rfl, fun p hp => hk p ((List.mem_filter.1 hp).1)⟩
theorem GoodS.add {D : DataW Unit} (h : GoodS D) (l : List ByteArray) : GoodS (addS D l) := by
  unfold addS
  induction l generalizing D with
  | nil => exact h
  | cons x l ih => exact ih (h.one x)
theorem GoodS.dels {D : DataW Unit} (h : GoodS D) (l : List ByteArray) : GoodS (delS D l) := by
  unfold delS
  induction l generalizing D with
  | nil => exact h
  | cons x l ih => exact ih (h.del x)
theorem goodS_set (l : List ByteArray) : GoodS (setS l) := goodS_none.add l
theorem hasS_put {D : DataW Unit} (h : GoodS D) (a s : ByteArray) : hasS (D.put (kS a) (.agg [])) s = true ↔ s = a ∨ hasS D s = true := by
  unfold hasS
  by_cases e : s = a
  · subst e
    simp [has_put_same h.1.isMap (kS_key s)]
  · rw [has_put_other (fun e' => e (kS_inj e'))]
    simp [e]
theorem hasS_one {D : DataW Unit} (h : GoodS D) (a s : ByteArray) : hasS (addOne D a) s = true ↔ s = a ∨ hasS D s = true := by
  unfold addOne
  split
  · rename_i h1
    constructor
    · exact .inr
    · rintro (rfl | h2)
      · exact h1
      · exact h2
  · exact hasS_put h a s
theorem hasS_del {D : DataW Unit} (a s : ByteArray) : hasS (D.del (kS a)) s = true ↔ s ≠ a ∧ hasS D s = true := by
  unfold hasS
  by_cases e : s = a
  · subst e
    simp [has_del_same]
  · rw [has_del_other (fun e' => e (kS_inj e'))]
    simp [e]
theorem hasS_add {D : DataW Unit} (h : GoodS D) (l : List ByteArray) (s : ByteArray) : hasS (addS D l) s = true ↔ s ∈ l ∨ hasS D s = true := by
  unfold addS
  induction l generalizing D with
  | nil => simp
  | cons x l ih =>
    rw [List.foldl_cons, ih (h.one x), hasS_one h, List.mem_cons]
    constructor
    · rintro (h1 | h1 | h1)
      · exact .inl (.inr h1)
      · exact .inl (.inl h1)
      · exact .inr h1
    · rintro ((h1 | h1) | h1)
      · exact .inr (.inl h1)
      · exact .inl h1
      · exact .inr (.inr h1)
theorem hasS_dels {D : DataW Unit} (l : List ByteArray) (s : ByteArray) : hasS (delS D l) s = true ↔ s ∉ l ∧ hasS D s = true := by
  unfold delS
  induction l generalizing D with
  | nil => simp
  | cons x l ih =>
    rw [List.foldl_cons, ih, hasS_del, List.mem_cons]
    constructor
    · rintro ⟨h1, h2, h3⟩
      exact ⟨fun h => h.elim h2 h1, h3⟩
    · rintro ⟨h1, h2⟩
      exact ⟨fun h => h1 (.inr h), fun h => h1 (.inl h), h2⟩
theorem hasS_none (s : ByteArray) : hasS (.map []) s = false := rfl
theorem hasS_set (l : List ByteArray) (s : ByteArray) : hasS (setS l) s = true ↔ s ∈ l := by
  rw [setS, hasS_add goodS_none, hasS_none]
  simp
/-- The same texts: the same keys, in whatever order. -/
theorem strKeys_perm {D D' : DataW Unit} (h : GoodS D) (h' : GoodS D') (he : ∀ s, hasS D s = true ↔ hasS D' s = true) : (strKeys D).Perm (strKeys D') := by
  obtain ⟨ht, es, rfl, hk⟩ := h
  obtain ⟨ht', es', rfl, hk'⟩ := h'
  obtain ⟨_, e1, hp⟩ := ht
  injection e1 with e1
  subst e1
  obtain ⟨_, e2, hp'⟩ := ht'
  injection e2 with e2
  subst e2
  have nd : ∀ {es : List (Lit × DataW Unit)}, es.Pairwise (fun p q => p.1 ≠ q.1) → (∀ p ∈ es, ∃ x, p.1 = .string x) → (strKeys (.map es : DataW Unit)).Nodup := by
    intro es hp hk
    show (es.map fun p => strOf p.1).Nodup
    refine List.pairwise_map.2 (hp.imp_of_mem fun {p q} hp' hq' hne e => hne ?_)
    obtain ⟨a, ha⟩ := hk p hp'
    obtain ⟨b, hb⟩ := hk q hq'
    rw [ha, hb] at e ⊢
    exact congrArg _ e
  have mm : ∀ {es : List (Lit × DataW Unit)}, (∀ p ∈ es, ∃ x, p.1 = .string x) → ∀ x, x ∈ strKeys (.map es : DataW Unit) ↔ hasS (.map es) ⟨x.toArray⟩ = true := by
    intro es hk x
    unfold hasS
    rw [has_eq, List.any_eq_true]
    show x ∈ es.map (fun p => strOf p.1) ↔ _
    rw [List.mem_map]
    constructor
    · rintro ⟨p, hp, rfl⟩
      obtain ⟨a, ha⟩ := hk p hp
      exact ⟨p, hp, by rw [ha]; simp [strOf, kS, Lit.sameKey]⟩
    · rintro ⟨p, hp, h⟩
      obtain ⟨a, ha⟩ := hk p hp
      refine ⟨p, hp, ?_⟩
      rw [ha] at h ⊢
      by_cases e : (Lit.string a) = kS ⟨x.toArray⟩
      · unfold kS at e
        injection e
      · rw [sameKey_ne e] at h
        cases h
  refine (List.perm_ext_iff_of_nodup (nd hp hk) (nd hp' hk')).2 fun x => ?_
  rw [mm hk, mm hk', he]
theorem lstS_ext {D D' : DataW Unit} (h : GoodS D) (h' : GoodS D') (he : ∀ s, hasS D s = true ↔ hasS D' s = true) : lstS D = lstS D' := by
  unfold lstS
  rw [mergeSort_of_perm (strKeys_perm h h' he)]
theorem size_strKeys {D : DataW Unit} (h : GoodS D) : Maps.size D = (strKeys D).length := by
  obtain ⟨_, es, rfl, _⟩ := h
  rw [size_eq]
  simp [strKeys]
theorem size_ext {D D' : DataW Unit} (h : GoodS D) (h' : GoodS D') (he : ∀ s, hasS D s = true ↔ hasS D' s = true) : Maps.size D = Maps.size D' := by
  rw [size_strKeys h, size_strKeys h', (strKeys_perm h h' he).length_eq]
theorem lstS_len {D : DataW Unit} (h : GoodS D) : (lstS D).length = Maps.size D := by
  unfold lstS
  rw [List.length_map, List.length_mergeSort, size_strKeys h]
theorem size_addS {D : DataW Unit} (h : GoodS D) (l : List ByteArray) : Maps.size D ≤ Maps.size (addS D l) ∧ Maps.size (addS D l) ≤ Maps.size D + l.length := by
  unfold addS
  induction l generalizing D with
  | nil => simp
  | cons x l ih =>
    have h1 := ih (h.one x)
    have h2 := size_put (k := kS x) h.1 (.agg [] : DataW Unit)
    have h3 : Maps.size (addOne D x) = Maps.size D ∨ Maps.size (addOne D x) = Maps.size D + 1 := by
      unfold addOne
      split
      · exact .inl rfl
      · rw [h2]
        split
        · exact .inl rfl
        · exact .inr rfl
    simp only [List.foldl_cons, List.length_cons]
    omega
theorem size_delS {D : DataW Unit} (h : GoodS D) (l : List ByteArray) : Maps.size (delS D l) ≤ Maps.size D := by
  unfold delS
  induction l generalizing D with
  | nil => simp
  | cons x l ih =>
    have h1 := ih (h.del x)
    have h2 := size_del (k := kS x) h.1
    simp only [List.foldl_cons]
    omega
theorem size_set (l : List ByteArray) : Maps.size (setS l) ≤ l.length := by
  have h := (size_addS goodS_none l).2
  simpa [size_eq, setS] using h
end Go.Proofs.Ytiekolbkmgdfoaa
