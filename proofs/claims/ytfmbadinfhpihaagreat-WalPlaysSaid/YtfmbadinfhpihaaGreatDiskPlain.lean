/-
  Files by their names, in plain words: what stands at a name, how many bytes all have.
  Conditions: as each lemma says.
-/
import Derived.Maps.OwnSet
import Derived.Maps.OwnOps
import Derived.Sort.KeysCollected
import Derived.Test.YtfmbadinfhpihaaGreatWords2
import Derived.Maps.RangeWalk
import Derived.Test.YtfmbadinfhpihaaGreatBuilder
import Derived.Sort.Walk0
set_option linter.unusedVariables false
set_option linter.unusedSimpArgs false
namespace Go.Proofs.YtfmbadinfhpihaaGreat
open Go.RowKit Go.Maps Go.Sort

def kS (s : ByteArray) : Lit := .string s.data.toList
theorem kS_inj {a b : ByteArray} (h : kS a = kS b) : a = b := by
  unfold kS at h
  injection h with h
  obtain ⟨a⟩ := a
  obtain ⟨b⟩ := b
  exact congrArg ByteArray.mk (Array.toList_inj.1 h)
theorem kS_key (s : ByteArray) : WideAt.IsKeyLit (kS s) := by simp [WideAt.IsKeyLit, kS]
def hasS (D : DataW Unit) (s : ByteArray) : Bool := Maps.has D (kS s)
/-- One text more, if it is not there. -/
def addOne (D : DataW Unit) (s : ByteArray) : DataW Unit := if hasS D s = true then D else D.put (kS s) (.agg [])
def addS (D : DataW Unit) (l : List ByteArray) : DataW Unit := l.foldl addOne D
def delS (D : DataW Unit) (l : List ByteArray) : DataW Unit := l.foldl (fun m s => m.del (kS s)) D
def setS (l : List ByteArray) : DataW Unit := addS (.map []) l
def lstS (D : DataW Unit) : List ByteArray := ((strKeys D).mergeSort leB).map fun x => ⟨x.toArray⟩
theorem addS_step {D : DataW Unit} {l : List ByteArray} {k : Nat} {d : ByteArray} (h : l[k]? = some d) : addS D (l.take (k + 1)) = addOne (addS D (l.take k)) d := by
  unfold addS
  rw [take_snoc h, List.foldl_append]
  rfl
theorem delS_step {D : DataW Unit} {l : List ByteArray} {k : Nat} {d : ByteArray} (h : l[k]? = some d) : delS D (l.take (k + 1)) = (delS D (l.take k)).del (kS d) := by
  unfold delS
  rw [take_snoc h, List.foldl_append]
  rfl

theorem delS_none (l : List ByteArray) : delS (.map []) l = .map [] := by
  unfold delS
  induction l with
  | nil => rfl
  | cons x l ih => exact ih
theorem mem_insert {x p : Lit × DataW Unit} : ∀ {l : List (Lit × DataW Unit)}, p ∈ DataW.insert x l → p = x ∨ p ∈ l
  | [], h => .inl (by simpa [DataW.insert] using h)
  | y :: l, h => by
    unfold DataW.insert at h
    split at h
    · simp only [List.mem_cons] at h
      rcases h with h | h | h
      · exact .inl h
      · exact .inr (by simp [h])
      · exact .inr (by simp [h])
    · simp only [List.mem_cons] at h
      rcases h with h | h
      · exact .inr (by simp [h])
      · rcases mem_insert h with h | h
        · exact .inl h
        · exact .inr (by simp [h])
/-- A map whose keys are texts. -/
def GoodS (D : DataW Unit) : Prop := Tidy D ∧ ∃ es, D = .map es ∧ ∀ p ∈ es, ∃ x, p.1 = .string x
theorem goodS_none : GoodS (.map []) := ⟨tidy_empty, [], rfl, by simp⟩
theorem GoodS.put {D : DataW Unit} (h : GoodS D) (s : ByteArray) : GoodS (D.put (kS s) (.agg [])) := by
  obtain ⟨ht, es, rfl, hk⟩ := h
  refine ⟨ht.put (kS_key s) _, _, rfl, fun p hp => ?_⟩
  rcases mem_insert hp with h | h
  · exact ⟨_, by rw [h]; rfl⟩
  · exact hk p ((List.mem_filter.1 h).1)
theorem GoodS.one {D : DataW Unit} (h : GoodS D) (s : ByteArray) : GoodS (addOne D s) := by
  unfold addOne
  split
  · exact h
  · exact h.put s
theorem GoodS.del {D : DataW Unit} (h : GoodS D) (s : ByteArray) : GoodS (D.del (kS s)) := by
  obtain ⟨ht, es, rfl, hk⟩ := h
  exact ⟨ht.del _, _, rfl, fun p hp => hk p ((List.mem_filter.1 hp).1)⟩
theorem GoodS.add {D : DataW Unit} (h : GoodS D) (l : List ByteArray) : GoodS (addS D l) := by
  unfold addS
  induction l generalizing D with
  | nil => exact h
  | cons x l ih => exact ih (h.one x)
theorem GoodS.dels {D : DataW Unit} (h : GoodS D) (l : List ByteArray) : GoodS (delS D l) := by
  unfold delS
  induction l generalizing D with
  | nil => exact h
  | cons x l ih => exact ih (h.del x)
theorem goodS_set (l : List ByteArray) : GoodS (setS l) := goodS_none.add l
theorem hasS_put {D : DataW Unit} (h : GoodS D) (a s : ByteArray) : hasS (D.put (kS a) (.agg [])) s = true ↔ s = a ∨ hasS D s = true := by
  unfold hasS
  by_cases e : s = a
  · subst e
    simp [has_put_same h.1.isMap (kS_key s)]
  · rw [has_put_other (fun e' => e (kS_inj e'))]
    simp [e]
theorem hasS_one {D : DataW Unit} (h : GoodS D) (a s : ByteArray) : hasS (addOne D a) s = true ↔ s = a ∨ hasS D s = true := by
  unfold addOne
  split
  · rename_i h1
    constructor
    · exact .inr
    · rintro (rfl | h2)
      · exact h1
      · exact h2
  · exact hasS_put h a s
theorem hasS_del {D : DataW Unit} (a s : ByteArray) : hasS (D.del (kS a)) s = true ↔ s ≠ a ∧ hasS D s = true := by
  unfold hasS
  by_cases e : s = a
  · subst e
    simp [has_del_same]
  · rw [has_del_other (fun e' => e (kS_inj e'))]
    simp [e]
theorem hasS_add {D : DataW Unit} (h : GoodS D) (l : List ByteArray) (s : ByteArray) : hasS (addS D l) s = true ↔ s ∈ l ∨ hasS D s = true := by
  unfold addS
  induction l generalizing D with
  | nil => simp
  | cons x l ih =>
    rw [List.foldl_cons, ih (h.one x), hasS_one h, List.mem_cons]
    constructor
    · rintro (h1 | h1 | h1)
      · exact .inl (.inr h1)
      · exact .inl (.inl h1)
      · exact .inr h1
    · rintro ((h1 | h1) | h1)
      · exact .inr (.inl h1)
      · exact .inl h1
      · exact .inr (.inr h1)
theorem hasS_dels {D : DataW Unit} (l : List ByteArray) (s : ByteArray) : hasS (delS D l) s = true ↔ s ∉ l ∧ hasS D s = true := by
  unfold delS
  induction l generalizing D with
  | nil => simp
  | cons x l ih =>
    rw [List.foldl_cons, ih, hasS_del, List.mem_cons]
    constructor
    · rintro ⟨h1, h2, h3⟩
      exact ⟨fun h => h.elim h2 h1, h3⟩
    · rintro ⟨h1, h2⟩
      exact ⟨fun h => h1 (.inr h), fun h => h1 (.inl h), h2⟩
theorem hasS_none (s : ByteArray) : hasS (.map []) s = false := rfl
theorem hasS_set (l : List ByteArray) (s : ByteArray) : hasS (setS l) s = true ↔ s ∈ l := by
  rw [setS, hasS_add goodS_none, hasS_none]
  simp
/-- The same texts: the same keys, in whatever order. -/
theorem strKeys_perm {D D' : DataW Unit} (h : GoodS D) (h' : GoodS D') (he : ∀ s, hasS D s = true ↔ hasS D' s = true) : (strKeys D).Perm (strKeys D') := by
  obtain ⟨ht, es, rfl, hk⟩ := h
  obtain ⟨ht', es', rfl, hk'⟩ := h'
  obtain ⟨_, e1, hp⟩ := ht
  injection e1 with e1
  subst e1
  obtain ⟨_, e2, hp'⟩ := ht'
  injection e2 with e2
  subst e2
  have nd : ∀ {es : List (Lit × DataW Unit)}, es.Pairwise (fun p q => p.1 ≠ q.1) → (∀ p ∈ es, ∃ x, p.1 = .string x) → (strKeys (.map es : DataW Unit)).Nodup := by
    intro es hp hk
    show (es.map fun p => strOf p.1).Nodup
    refine List.pairwise_map.2 (hp.imp_of_mem fun {p q} hp' hq' hne e => hne ?_)
    obtain ⟨a, ha⟩ := hk p hp'
    obtain ⟨b, hb⟩ := hk q hq'
    rw [ha, hb] at e ⊢
    exact congrArg _ e
  have mm : ∀ {es : List (Lit × DataW Unit)}, (∀ p ∈ es, ∃ x, p.1 = .string x) → ∀ x, x ∈ strKeys (.map es : DataW Unit) ↔ hasS (.map es) ⟨x.toArray⟩ = true := by
    intro es hk x
    unfold hasS
    rw [has_eq, List.any_eq_true]
    show x ∈ es.map (fun p => strOf p.1) ↔ _
    rw [List.mem_map]
    constructor
    · rintro ⟨p, hp, rfl⟩
      obtain ⟨a, ha⟩ := hk p hp
      exact ⟨p, hp, by rw [ha]; simp [strOf, kS, Lit.sameKey]⟩
    · rintro ⟨p, hp, h⟩
      obtain ⟨a, ha⟩ := hk p hp
      refine ⟨p, hp, ?_⟩
      rw [ha] at h ⊢
      by_cases e : (Lit.string a) = kS ⟨x.toArray⟩
      · unfold kS at e
        injection e
      · rw [sameKey_ne e] at h
        cases h
  refine (List.perm_ext_iff_of_nodup (nd hp hk) (nd hp' hk')).2 fun x => ?_
  rw [mm hk, mm hk', he]
theorem lstS_ext {D D' : DataW Unit} (h : GoodS D) (h' : GoodS D') (he : ∀ s, hasS D s = true ↔ hasS D' s = true) : lstS D = lstS D' := by
  unfold lstS
  rw [mergeSort_of_perm (strKeys_perm h h' he)]
theorem size_strKeys {D : DataW Unit} (h : GoodS D) : Maps.size D = (strKeys D).length := by
  obtain ⟨_, es, rfl, _⟩ := h
  rw [size_eq]
  simp [strKeys]
theorem size_ext {D D' : DataW Unit} (h : GoodS D) (h' : GoodS D') (he : ∀ s, hasS D s = true ↔ hasS D' s = true) : Maps.size D = Maps.size D' := by
  rw [size_strKeys h, size_strKeys h', (strKeys_perm h h' he).length_eq]
theorem lstS_len {D : DataW Unit} (h : GoodS D) : (lstS D).length = Maps.size D := by
  unfold lstS
  rw [List.length_map, List.length_mergeSort, size_strKeys h]
theorem size_addS {D : DataW Unit} (h : GoodS D) (l : List ByteArray) : Maps.size D ≤ Maps.size (addS D l) ∧ Maps.size (addS D l) ≤ Maps.size D + l.length := by
  unfold addS
  induction l generalizing D with
  | nil => simp
  | cons x l ih =>
    have h1 := ih (h.one x)
    have h2 := size_put (k := kS x) h.1 (.agg [] : DataW Unit)
    have h3 : Maps.size (addOne D x) = Maps.size D ∨ Maps.size (addOne D x) = Maps.size D + 1 := by
      unfold addOne
      split
      · exact .inl rfl
      · rw [h2]
        split
        · exact .inl rfl
        · exact .inr rfl
    simp only [List.foldl_cons, List.length_cons]
    omega
theorem size_delS {D : DataW Unit} (h : GoodS D) (l : List ByteArray) : Maps.size (delS D l) ≤ Maps.size D := by
  unfold delS
  induction l generalizing D with
  | nil => simp
  | cons x l ih =>
    have h1 := ih (h.del x)
    have h2 := size_del (k := kS x) h.1
    simp only [List.foldl_cons]
    omega
theorem size_set (l : List ByteArray) : Maps.size (setS l) ≤ l.length := by
  have h := (size_addS goodS_none l).2
  simpa [size_eq, setS] using h
end Go.Proofs.YtfmbadinfhpihaaGreat
namespace Go.Proofs.YtfmbadinfhpihaaGreat
open Go.RowKit Go.Maps Go.Sort

/-- A kind of record: how it lies in memory, how it is spoken of. -/
class Kd (α : Type) where
  val : α → Value
  dat : α → DataW Unit
  un : DataW Unit → α
  key : α → ByteArray
  ren : α → ByteArray → α
  zero : α
  E : Value → Option (DataW Unit × List MemPlace)
  un_dat : ∀ x, un (dat x) = x
  E_mk : ∀ x, E (val x) = some (dat x, [])
  E_inv : ∀ v z, E v = some z → ∃ x, v = val x ∧ z = (dat x, [])
section
variable {α : Type} [Kd α]
def recAt (α : Type) [Kd α] (D : DataW Unit) (s : ByteArray) : α := Kd.un (D.atKey (kS s) (Kd.dat (Kd.zero : α)))
def putR (D : DataW Unit) (s : ByteArray) (x : α) : DataW Unit := D.put (kS s) (Kd.dat x)
/-- A map from texts to records. -/
def GoodR (α : Type) [Kd α] (D : DataW Unit) : Prop := Tidy D ∧ ∃ es, D = .map es ∧ ∀ p ∈ es, ∃ (s : ByteArray) (x : α), p.1 = kS s ∧ p.2 = Kd.dat x
theorem goodR_none : GoodR α (.map []) := ⟨tidy_empty, [], rfl, by simp⟩
theorem GoodR.put {D : DataW Unit} (h : GoodR α D) (s : ByteArray) (x : α) : GoodR α (putR D s x) := by
  obtain ⟨ht, es, rfl, hk⟩ := h
  refine ⟨ht.put (kS_key s) _, _, rfl, fun p hp => ?_⟩
  rcases mem_insert hp with h | h
  · exact ⟨s, x, by rw [h], by rw [h]⟩
  · exact hk p ((List.mem_filter.1 h).1)
theorem GoodR.isMap {D : DataW Unit} (h : GoodR α D) : IsMap D := h.1.isMap
theorem GoodR.keys {D : DataW Unit} (h : GoodR α D) : GoodS D := by
  obtain ⟨ht, es, rfl, hk⟩ := h
  exact ⟨ht, es, rfl, fun p hp => by obtain ⟨s, _, e, _⟩ := hk p hp; exact ⟨_, e⟩⟩
theorem hasR_put {D : DataW Unit} (h : GoodR α D) (a : ByteArray) (x : α) (s : ByteArray) : hasS (putR D a x) s = true ↔ s = a ∨ hasS D s = true := by
  unfold hasS putR
  by_cases e : s = a
  · subst e
    simp [has_put_same h.isMap (kS_key s)]
  · rw [has_put_other (fun e' => e (kS_inj e'))]
    simp [e]
theorem recAt_put_same {D : DataW Unit} (h : GoodR α D) (s : ByteArray) (x : α) : recAt α (putR D s x) s = x := by
  unfold recAt putR
  rw [atKey_put_same h.isMap (kS_key s), Kd.un_dat]
theorem recAt_put_other {D : DataW Unit} {s a : ByteArray} (hne : s ≠ a) (x : α) : recAt α (putR D a x) s = recAt α D s := by
  unfold recAt putR
  rw [atKey_put_other (fun e => hne (kS_inj e))]
theorem recAt_none {D : DataW Unit} {s : ByteArray} (h : hasS D s = false) : recAt α D s = Kd.zero := by
  unfold recAt
  rw [atKey_of_not_has h, Kd.un_dat]
theorem recAt_form {D : DataW Unit} (h : GoodR α D) (s : ByteArray) : D.atKey (kS s) (Kd.dat (Kd.zero : α)) = Kd.dat (recAt α D s) := by
  obtain ⟨_, es, rfl, hk⟩ := h
  unfold recAt
  cases hf : es.find? (fun p => p.1.sameKey (kS s)) with
  | none =>
    have e : DataW.atKey (.map es) (kS s) (Kd.dat (Kd.zero : α)) = Kd.dat (Kd.zero : α) := by simp only [DataW.atKey, hf]
    rw [e, Kd.un_dat]
  | some p =>
    have e : DataW.atKey (.map es) (kS s) (Kd.dat (Kd.zero : α)) = p.2 := by simp only [DataW.atKey, hf]
    obtain ⟨_, x, _, h2⟩ := hk p (List.mem_of_find?_eq_some hf)
    rw [e, h2, Kd.un_dat]
theorem size_putR {D : DataW Unit} (h : GoodR α D) (s : ByteArray) (x : α) : Maps.size (putR D s x) = if hasS D s then Maps.size D else Maps.size D + 1 := size_put h.1 _
theorem dat_inj {x y : α} (h : Kd.dat x = Kd.dat y) : x = y := by
  have := congrArg (Kd.un (α := α)) h
  rwa [Kd.un_dat, Kd.un_dat] at this

/-! ### several that are added -/
/-- What is wrong with one more; 0: nothing. -/
def errR (valid : ByteArray → Bool) (most : Nat) (ahead behind : α → Int) (out : DataW Unit) (x : α) : Int :=
  if valid (Kd.key x) = false then 9 else if ahead x ≠ 0 then ahead x else if hasS out (Kd.key x) = true then 8 else if behind x ≠ 0 then behind x else if most ≤ Maps.size out then 10 else 0
def stepR (valid : ByteArray → Bool) (most : Nat) (ahead behind : α → Int) (st : Int × DataW Unit) (x : α) : Int × DataW Unit :=
  if st.1 ≠ 0 then st else (errR valid most ahead behind st.2 x, if errR valid most ahead behind st.2 x = 0 then putR st.2 (Kd.key x) x else st.2)
def goR (valid : ByteArray → Bool) (most : Nat) (ahead behind : α → Int) (had : DataW Unit) (l : List α) : Int × DataW Unit := l.foldl (stepR valid most ahead behind) (0, had)
section
variable {valid : ByteArray → Bool} {most : Nat} {ahead behind : α → Int}
theorem stepR_off {st : Int × DataW Unit} (h : st.1 ≠ 0) (x : α) : stepR valid most ahead behind st x = st := by unfold stepR; rw [if_pos h]
theorem goR_off {st : Int × DataW Unit} (h : st.1 ≠ 0) (l : List α) : l.foldl (stepR valid most ahead behind) st = st := by
  induction l with
  | nil => rfl
  | cons x l ih => rw [List.foldl_cons, stepR_off h]; exact ih
theorem stepR_bad {D : DataW Unit} {x : α} (h : errR valid most ahead behind D x ≠ 0) : stepR valid most ahead behind (0, D) x = (errR valid most ahead behind D x, D) := by
  unfold stepR
  rw [if_neg (by simp), if_neg h]
theorem stepR_ok {D : DataW Unit} {x : α} (h : errR valid most ahead behind D x = 0) : stepR valid most ahead behind (0, D) x = (0, putR D (Kd.key x) x) := by
  unfold stepR
  rw [if_neg (by simp), h, if_pos rfl]
/-- Where one is wrong all behind it are passed over. -/
theorem goR_bad {had D : DataW Unit} {l : List α} {k : Nat} {x : α} (hx : l[k]? = some x) (hk : goR valid most ahead behind had (l.take k) = (0, D)) (h : errR valid most ahead behind D x ≠ 0) : (goR valid most ahead behind had l).1 = errR valid most ahead behind D x := by
  unfold goR at hk ⊢
  have hsp : l = l.take (k + 1) ++ l.drop (k + 1) := (List.take_append_drop _ _).symm
  rw [hsp, List.foldl_append, take_snoc hx, List.foldl_append, hk, List.foldl_cons, List.foldl_nil, stepR_bad h, goR_off (by exact h)]
theorem goR_step {had D : DataW Unit} {l : List α} {k : Nat} {x : α} (hx : l[k]? = some x) (hk : goR valid most ahead behind had (l.take k) = (0, D)) (h : errR valid most ahead behind D x = 0) : goR valid most ahead behind had (l.take (k + 1)) = (0, putR D (Kd.key x) x) := by
  unfold goR at hk ⊢
  rw [take_snoc hx, List.foldl_append, hk, List.foldl_cons, List.foldl_nil, stepR_ok h]
/-- What is had behind several. -/
def outR (valid : ByteArray → Bool) (most : Nat) (ahead behind : α → Int) (had : DataW Unit) (l : List α) : DataW Unit := if (goR valid most ahead behind had l).1 = 0 then (goR valid most ahead behind had l).2 else had
theorem stepR_good {st : Int × DataW Unit} (h : GoodR α st.2 ∧ Maps.size st.2 ≤ most) (x : α) : GoodR α (stepR valid most ahead behind st x).2 ∧ Maps.size (stepR valid most ahead behind st x).2 ≤ most := by
  unfold stepR
  split
  · exact h
  · by_cases e : errR valid most ahead behind st.2 x = 0
    · simp only [e, if_true]
      refine ⟨h.1.put _ _, ?_⟩
      rw [size_putR h.1]
      unfold errR at e
      split
      · exact h.2
      · split at e
        · cases e
        · split at e
          · exact absurd e (by assumption)
          · split at e
            · exact absurd e (by assumption)
            · split at e
              · cases e
              · omega
    · simp only [if_neg e]
      exact h
theorem goR_good {had : DataW Unit} (h : GoodR α had ∧ Maps.size had ≤ most) (l : List α) : GoodR α (goR valid most ahead behind had l).2 ∧ Maps.size (goR valid most ahead behind had l).2 ≤ most := by
  unfold goR
  have : ∀ st : Int × DataW Unit, GoodR α st.2 ∧ Maps.size st.2 ≤ most → GoodR α (l.foldl (stepR valid most ahead behind) st).2 ∧ Maps.size (l.foldl (stepR valid most ahead behind) st).2 ≤ most := by
    induction l with
    | nil => intro st h; exact h
    | cons x l ih => intro st h; exact ih _ (stepR_good h x)
  exact this _ h
end
end
end Go.Proofs.YtfmbadinfhpihaaGreat
namespace Go.Proofs.YtfmbadinfhpihaaGreat
open Go.RowKit Go.Maps Go.Sort
/-- The loop's answer: the first k stand ahead, the next one does not. -/
theorem takeWhile_at {β : Type} {p : β → Bool} : ∀ {P : List β} {k : Nat}, k ≤ P.length → (∀ (i : Nat) (x : β), i < k → P[i]? = some x → p x = true) → (∀ x, P[k]? = some x → p x = false) → P.takeWhile p = P.take k ∧ P.dropWhile p = P.drop k
  | [], k, _, _, _ => by simp
  | y :: P, 0, _, _, h2 => by
    have := h2 y rfl
    simp [this]
  | y :: P, k + 1, hk, h1, h2 => by
    have hy := h1 0 y (by omega) rfl
    have ih := takeWhile_at (P := P) (k := k) (p := p) (by simpa using hk) (fun i x hi hx => h1 (i + 1) x (by omega) (by simpa using hx)) (fun x hx => h2 x (by simpa using hx))
    simp [hy, ih.1, ih.2]
theorem mem_takeWhile {β : Type} {p : β → Bool} {P : List β} {y : β} (h : y ∈ P.takeWhile p) : y ∈ P := (List.takeWhile_sublist p).subset h
section
variable {α : Type} [Kd α]

def ltK (s : ByteArray) (x : α) : Bool := decide ((Kd.key x).data.toList < s.data.toList)
def isK (s : ByteArray) (x : α) : Bool := decide ((Kd.key x).data.toList = s.data.toList)
/-- One more, behind those whose names stand ahead. -/
def insK (P : List α) (x : α) : List α := P.takeWhile (ltK (Kd.key x)) ++ [x] ++ P.dropWhile (ltK (Kd.key x))
def findK (P : List α) (s : ByteArray) : Option α := P.find? (isK s)
theorem isK_iff {s : ByteArray} {x : α} : isK s x = true ↔ Kd.key x = s := by
  unfold isK
  rw [decide_eq_true_iff]
  constructor
  · intro h
    cases hk : Kd.key x with
    | mk a =>
      rw [hk] at h
      cases s with
      | mk b =>
        cases a
        cases b
        simp at h
        rw [h]
  · rintro rfl
    rfl
theorem isK_no {s : ByteArray} {x : α} (h : Kd.key x ≠ s) : isK s x = false := by
  cases e : isK s x
  · rfl
  · exact absurd (isK_iff.1 e) h
theorem insK_at {P : List α} {x : α} {k : Nat} (hk : k ≤ P.length) (h1 : ∀ (i : Nat) (y : α), i < k → P[i]? = some y → (Kd.key y).data.toList < (Kd.key x).data.toList) (h2 : ∀ y, P[k]? = some y → ¬ (Kd.key y).data.toList < (Kd.key x).data.toList) : insK P x = P.take k ++ [x] ++ P.drop k := by
  unfold insK
  have := takeWhile_at (p := ltK (Kd.key x)) hk (fun i y hi hy => decide_eq_true (h1 i y hi hy)) (fun y hy => decide_eq_false (h2 y hy))
  rw [this.1, this.2]
theorem insK_len (P : List α) (x : α) : (insK P x).length = P.length + 1 := by
  unfold insK
  have h : (P.takeWhile (ltK (Kd.key x))).length + (P.dropWhile (ltK (Kd.key x))).length = P.length := by
    rw [← List.length_append, List.takeWhile_append_dropWhile]
  simp only [List.length_append, List.length_cons, List.length_nil]
  omega
theorem findK_ins {P : List α} {x : α} (h : findK P (Kd.key x) = none) (s : ByteArray) : findK (insK P x) s = if isK s x then some x else findK P s := by
  unfold findK insK at *
  rw [List.find?_append, List.find?_append]
  have hP : P.find? (isK s) = ((P.takeWhile (ltK (Kd.key x))).find? (isK s)).or ((P.dropWhile (ltK (Kd.key x))).find? (isK s)) := by
    rw [← List.find?_append, List.takeWhile_append_dropWhile]
  by_cases e : isK s x = true
  · have es := isK_iff.1 e
    subst es
    rw [if_pos e]
    have h1 : (P.takeWhile (ltK (Kd.key x))).find? (isK (Kd.key x)) = none := by
      rw [List.find?_eq_none] at h ⊢
      intro y hy
      exact h y (mem_takeWhile hy)
    rw [h1]
    simp [e]
  · have e' : isK s x = false := by simpa using e
    rw [if_neg e, hP]
    simp [e']

/-- A list and a map have the same records. -/
structure SameK (D : DataW Unit) (P : List α) : Prop where
  good : GoodR α D
  len : P.length = Maps.size D
  find : ∀ s, findK P s = if hasS D s then some (recAt α D s) else none
theorem SameK.has {D : DataW Unit} {P : List α} (h : SameK D P) (s : ByteArray) : (findK P s).isSome = hasS D s := by
  rw [h.find s]
  cases hasS D s <;> simp
theorem SameK.none_ : SameK (α := α) (.map []) [] := ⟨goodR_none, rfl, fun s => by rw [if_neg (by show ¬ hasS (.map []) s = true; simp [hasS, Maps.has])]; rfl⟩
theorem SameK.put {D : DataW Unit} {P : List α} (h : SameK D P) {x : α} (hn : hasS D (Kd.key x) = false) : SameK (putR D (Kd.key x) x) (insK P x) := by
  refine ⟨h.good.put _ _, by rw [insK_len, h.len, size_putR h.good, hn]; rfl, fun s => ?_⟩
  have hf : findK P (Kd.key x) = none := by rw [h.find, hn]; rfl
  rw [findK_ins hf]
  by_cases e : isK s x = true
  · have es := isK_iff.1 e
    subst es
    rw [if_pos e, if_pos ((hasR_put h.good _ _ _).2 (.inl rfl)), recAt_put_same h.good]
  · have hne : s ≠ Kd.key x := fun e2 => e (isK_iff.2 e2.symm)
    rw [if_neg e, h.find, recAt_put_other hne]
    by_cases h9 : hasS D s = true
    · rw [if_pos h9, if_pos ((hasR_put h.good _ _ _).2 (.inr h9))]
    · rw [if_neg h9, if_neg (fun h2 => ((hasR_put h.good _ _ _).1 h2).elim hne h9)]

/-- What is wrong with one more, at a list. -/
def err8 (valid : ByteArray → Bool) (most : Nat) (ahead behind : α → Int) (P : List α) (x : α) : Int :=
  if valid (Kd.key x) = false then 9 else if ahead x ≠ 0 then ahead x else if (findK P (Kd.key x)).isSome = true then 8 else if behind x ≠ 0 then behind x else if most ≤ P.length then 10 else 0
section
variable {valid : ByteArray → Bool} {most : Nat} {ahead behind : α → Int}
theorem SameK.err {D : DataW Unit} {P : List α} (h : SameK D P) (x : α) : err8 valid most ahead behind P x = errR valid most ahead behind D x := by
  unfold err8 errR
  rw [h.has, h.len]
def step8 (valid : ByteArray → Bool) (most : Nat) (ahead behind : α → Int) (st : Int × List α) (x : α) : Int × List α :=
  if st.1 ≠ 0 then st else (err8 valid most ahead behind st.2 x, if err8 valid most ahead behind st.2 x = 0 then insK st.2 x else st.2)
def go8 (valid : ByteArray → Bool) (most : Nat) (ahead behind : α → Int) (had : List α) (l : List α) : Int × List α := l.foldl (step8 valid most ahead behind) (0, had)
theorem step8_off {st : Int × List α} (h : st.1 ≠ 0) (x : α) : step8 valid most ahead behind st x = st := by unfold step8; rw [if_pos h]
theorem go8_off {st : Int × List α} (h : st.1 ≠ 0) (l : List α) : l.foldl (step8 valid most ahead behind) st = st := by
  induction l with
  | nil => rfl
  | cons x l ih => rw [List.foldl_cons, step8_off h]; exact ih
theorem go8_bad {had D : List α} {l : List α} {k : Nat} {x : α} (hx : l[k]? = some x) (hk : go8 valid most ahead behind had (l.take k) = (0, D)) (h : err8 valid most ahead behind D x ≠ 0) : go8 valid most ahead behind had l = (err8 valid most ahead behind D x, D) := by
  unfold go8 at hk ⊢
  have hsp : l = l.take (k + 1) ++ l.drop (k + 1) := (List.take_append_drop _ _).symm
  have h1 : step8 valid most ahead behind (0, D) x = (err8 valid most ahead behind D x, D) := by unfold step8; rw [if_neg (by simp), if_neg h]
  rw [hsp, List.foldl_append, take_snoc hx, List.foldl_append, hk, List.foldl_cons, List.foldl_nil, h1, go8_off h]
theorem go8_step {had D : List α} {l : List α} {k : Nat} {x : α} (hx : l[k]? = some x) (hk : go8 valid most ahead behind had (l.take k) = (0, D)) (h : err8 valid most ahead behind D x = 0) : go8 valid most ahead behind had (l.take (k + 1)) = (0, insK D x) := by
  unfold go8 at hk ⊢
  have h1 : step8 valid most ahead behind (0, D) x = (0, insK D x) := by unfold step8; rw [if_neg (by simp), h, if_pos rfl]
  rw [take_snoc hx, List.foldl_append, hk, List.foldl_cons, List.foldl_nil, h1]
/-- What is had behind several, at a list. -/
def out8 (valid : ByteArray → Bool) (most : Nat) (ahead behind : α → Int) (had : List α) (l : List α) : List α := if (go8 valid most ahead behind had l).1 = 0 then (go8 valid most ahead behind had l).2 else had
theorem out8_bad {had D : List α} {l : List α} {k : Nat} {x : α} {e : Int} (hx : l[k]? = some x) (hk : go8 valid most ahead behind had (l.take k) = (0, D)) (he : err8 valid most ahead behind D x = e) (hne : e ≠ 0) : (go8 valid most ahead behind had l).1 = e ∧ out8 valid most ahead behind had l = had := by
  subst he
  have h := go8_bad hx hk hne
  exact ⟨by rw [h], by unfold out8; rw [h]; exact if_neg hne⟩
theorem out8_ok {had D : List α} {l : List α} (hk : go8 valid most ahead behind had l = (0, D)) : (go8 valid most ahead behind had l).1 = 0 ∧ out8 valid most ahead behind had l = D := by
  unfold out8
  rw [hk]
  exact ⟨rfl, if_pos rfl⟩
theorem SameK.step {D : DataW Unit} {P : List α} {e : Int} (h : SameK D P) (x : α) : (step8 valid most ahead behind (e, P) x).1 = (stepR valid most ahead behind (e, D) x).1 ∧ SameK (stepR valid most ahead behind (e, D) x).2 (step8 valid most ahead behind (e, P) x).2 := by
  unfold step8 stepR
  by_cases h0 : e ≠ 0
  · rw [if_pos h0, if_pos h0]
    exact ⟨rfl, h⟩
  · rw [if_neg h0, if_neg h0]
    simp only [h.err x]
    refine ⟨trivial, ?_⟩
    by_cases h1 : errR valid most ahead behind D x = 0
    · rw [if_pos h1, if_pos h1]
      refine h.put ?_
      unfold errR at h1
      cases hh : hasS D (Kd.key x)
      · rfl
      · exfalso
        rw [hh] at h1
        split at h1
        · cases h1
        · split at h1
          · exact absurd h1 (by assumption)
          · simp at h1
    · rw [if_neg h1, if_neg h1]
      exact h
theorem SameK.go {D : DataW Unit} {P : List α} (h : SameK D P) (l : List α) : (go8 valid most ahead behind P l).1 = (goR valid most ahead behind D l).1 ∧ SameK (goR valid most ahead behind D l).2 (go8 valid most ahead behind P l).2 := by
  unfold go8 goR
  have : ∀ (e : Int) (D : DataW Unit) (P : List α), SameK D P → (l.foldl (step8 valid most ahead behind) (e, P)).1 = (l.foldl (stepR valid most ahead behind) (e, D)).1 ∧ SameK (l.foldl (stepR valid most ahead behind) (e, D)).2 (l.foldl (step8 valid most ahead behind) (e, P)).2 := by
    induction l with
    | nil => intro e D P h; exact ⟨rfl, h⟩
    | cons x l ih =>
      intro e D P h
      have hs := h.step (valid := valid) (most := most) (ahead := ahead) (behind := behind) (e := e) x
      rw [List.foldl_cons, List.foldl_cons]
      have e1 : step8 valid most ahead behind (e, P) x = ((stepR valid most ahead behind (e, D) x).1, (step8 valid most ahead behind (e, P) x).2) := by rw [← hs.1]
      rw [e1]
      exact ih _ _ _ hs.2
  exact this 0 D P h
theorem SameK.out {D : DataW Unit} {P : List α} (h : SameK D P) (l : List α) : SameK (outR valid most ahead behind D l) (out8 valid most ahead behind P l) := by
  have hg := h.go (valid := valid) (most := most) (ahead := ahead) (behind := behind) l
  unfold outR out8
  rw [hg.1]
  split
  · exact hg.2
  · exact h
end
end
end Go.Proofs.YtfmbadinfhpihaaGreat
namespace Go.Proofs.YtfmbadinfhpihaaGreat
open Go.RowKit Go.Maps Go.Sort

theorem mem_lstS {D : DataW Unit} (h : GoodS D) (s : ByteArray) : s ∈ lstS D ↔ hasS D s = true := by
  obtain ⟨_, es, rfl, hk⟩ := h
  unfold lstS
  rw [List.mem_map]
  unfold hasS
  rw [has_eq, List.any_eq_true]
  constructor
  · rintro ⟨x, hx, rfl⟩
    rw [List.mem_mergeSort] at hx
    obtain ⟨p, hp, rfl⟩ := List.mem_map.1 (show x ∈ es.map (fun p => strOf p.1) from hx)
    obtain ⟨a, ha⟩ := hk p hp
    exact ⟨p, hp, by rw [ha]; simp [strOf, kS, Lit.sameKey]⟩
  · rintro ⟨p, hp, h⟩
    obtain ⟨a, ha⟩ := hk p hp
    have e := WideAt.sameKey_eq h
    refine ⟨a, ?_, ?_⟩
    · rw [List.mem_mergeSort]
      exact List.mem_map.2 ⟨p, hp, by rw [ha]; rfl⟩
    · rw [ha] at e
      unfold kS at e
      injection e with e
      rw [e]
end Go.Proofs.YtfmbadinfhpihaaGreat
namespace Go.Proofs.YtfmbadinfhpihaaGreat
open Go.RowKit Go.Maps Go.Sort

def lessS (a b : ByteArray) : Bool := Op.bytesLess a.toList b.toList
def cmpS (a b : ByteArray) : Int := if lessS a b = true then -1 else if lessS b a = true then 1 else 0
theorem lessS_iff (a b : ByteArray) : lessS a b = true ↔ a.toList < b.toList := by unfold lessS; rw [bytesLess_eq]; simp
theorem cmp_cases (a b : ByteArray) : (cmpS a b = -1 ∧ a.toList < b.toList) ∨ (cmpS a b = 1 ∧ b.toList < a.toList) ∨ (cmpS a b = 0 ∧ ¬ a.toList < b.toList ∧ ¬ b.toList < a.toList) := by
  unfold cmpS
  by_cases h1 : lessS a b = true
  · rw [if_pos h1]; exact .inl ⟨rfl, (lessS_iff a b).1 h1⟩
  · rw [if_neg h1]
    have h1' : ¬ a.toList < b.toList := fun h => h1 ((lessS_iff a b).2 h)
    by_cases h2 : lessS b a = true
    · rw [if_pos h2]; exact .inr (.inl ⟨rfl, (lessS_iff b a).1 h2⟩)
    · rw [if_neg h2]
      exact .inr (.inr ⟨rfl, h1', fun h => h2 ((lessS_iff b a).2 h)⟩)
theorem toList_inj {a b : ByteArray} (h : a.toList = b.toList) : a = b := bytes_eq_iff.1 (by rw [h]; exact beq_self_eq_true _)
theorem cmp_zero (a b : ByteArray) : cmpS a b = 0 ↔ a = b := by
  constructor
  · intro h
    rcases cmp_cases a b with ⟨h1, _⟩ | ⟨h1, _⟩ | ⟨_, h2, h3⟩
    · omega
    · omega
    · exact toList_inj (List.le_antisymm (List.not_lt.1 h3) (List.not_lt.1 h2))
  · rintro rfl
    rcases cmp_cases a a with ⟨_, h⟩ | ⟨_, h⟩ | ⟨h, _⟩
    · exact absurd h (List.lt_irrefl _)
    · exact absurd h (List.lt_irrefl _)
    · exact h
theorem cmp_swap (a b : ByteArray) : cmpS b a = - cmpS a b := by
  rcases cmp_cases a b with ⟨h1, h2⟩ | ⟨h1, h2⟩ | ⟨h1, h2, h3⟩ <;> rcases cmp_cases b a with ⟨k1, k2⟩ | ⟨k1, k2⟩ | ⟨k1, k2, k3⟩ <;> rw [h1, k1] <;> first | rfl | exact absurd k2 (List.lt_asymm h2) | exact absurd h2 k3 | exact absurd h2 k2 | exact absurd k2 h3 | exact absurd k2 h2
theorem cmp_le (a b : ByteArray) : cmpS a b ≤ 0 ↔ a.toList ≤ b.toList := by
  rcases cmp_cases a b with ⟨h1, h2⟩ | ⟨h1, h2⟩ | ⟨h1, h2, h3⟩
  · rw [h1]; exact ⟨fun _ => List.not_lt.1 (List.lt_asymm h2), fun _ => by omega⟩
  · rw [h1]; exact ⟨fun h => by omega, fun h => absurd h2 (List.not_lt.2 h)⟩
  · rw [h1]; exact ⟨fun _ => List.not_lt.1 h3, fun _ => by omega⟩
theorem toList_data (a : ByteArray) : a.toList = a.data.toList := ByteArray.toList_eq a
theorem mk_data (a : ByteArray) : (⟨a.data.toList.toArray⟩ : ByteArray) = a := by cases a; simp
theorem less_iff (a b : ByteArray) : lessS a b = true ↔ a.data.toList < b.data.toList := by rw [lessS_iff, toList_data, toList_data]
theorem cmp_neg (a b : ByteArray) : cmpS a b < 0 ↔ a.data.toList < b.data.toList := by
  rcases cmp_cases a b with ⟨h, h1⟩ | ⟨h, h1⟩ | ⟨h, h1, h2⟩
  · rw [toList_data, toList_data] at h1
    exact ⟨fun _ => h1, fun _ => by omega⟩
  · rw [toList_data, toList_data] at h1
    exact ⟨fun _ => by omega, fun h2 => absurd h1 (List.lt_asymm h2)⟩
  · rw [toList_data, toList_data] at h1
    exact ⟨fun _ => by omega, fun h2 => absurd h2 h1⟩
/-- Byte by byte. -/
theorem cmp_first {a b : ByteArray} {i : Nat} (ha : i < a.size) (hb : i < b.size) (he : a.data.toList.take i = b.data.toList.take i) (hlt : a[i].toNat < b[i].toNat) : cmpS a b = -1 := by
  have h : a.data.toList < b.data.toList := by
    rw [List.lt_iff_exists]
    refine .inr ⟨i, by simpa using ha, by simpa using hb, fun j hj => ?_, ?_⟩
    · have h1 : (a.data.toList.take i)[j]? = (b.data.toList.take i)[j]? := by rw [he]
      rw [List.getElem?_take, List.getElem?_take, if_pos hj, if_pos hj] at h1
      rw [List.getElem?_eq_getElem (by simp; omega), List.getElem?_eq_getElem (by simp; omega)] at h1
      injection h1
    · simp only [Array.getElem_toList]
      exact UInt8.lt_iff_toNat_lt.2 hlt
  have := (cmp_neg a b).2 h
  rcases cmp_cases a b with ⟨h, _⟩ | ⟨h, _⟩ | ⟨h, _⟩ <;> omega
theorem cmp_first' {a b : ByteArray} {i : Nat} (ha : i < a.size) (hb : i < b.size) (he : a.data.toList.take i = b.data.toList.take i) (hlt : b[i].toNat < a[i].toNat) : cmpS a b = 1 := by
  have := cmp_first hb ha he.symm hlt
  have := cmp_swap b a
  omega
theorem cmp_short {a b : ByteArray} (he : a.data.toList.take a.size = b.data.toList.take a.size) (hlt : a.size < b.size) : cmpS a b = -1 := by
  have h : a.data.toList < b.data.toList := by
    rw [List.lt_iff_exists]
    left
    have e : a.data.toList.length = a.size := by simp
    rw [List.take_of_length_le (by omega)] at he
    exact ⟨by rw [e]; exact he, by simpa using hlt⟩
  have := (cmp_neg a b).2 h
  rcases cmp_cases a b with ⟨h, _⟩ | ⟨h, _⟩ | ⟨h, _⟩ <;> omega
theorem cmp_short' {a b : ByteArray} (he : a.data.toList.take b.size = b.data.toList.take b.size) (hlt : b.size < a.size) : cmpS a b = 1 := by
  have := cmp_short he.symm hlt
  have := cmp_swap b a
  omega
theorem cmp_whole {a b : ByteArray} (he : a.data.toList.take a.size = b.data.toList.take a.size) (hs : a.size = b.size) : cmpS a b = 0 := by
  rw [cmp_zero]
  have e : a.data.toList.length = a.size := by simp
  have e' : b.data.toList.length = a.size := by rw [hs]; simp
  rw [List.take_of_length_le (by omega), List.take_of_length_le (by omega)] at he
  exact of_data he
end Go.Proofs.YtfmbadinfhpihaaGreat
namespace Go.Proofs.YtfmbadinfhpihaaGreat
open Go.RowKit Go.Maps Go.Sort

def srt (l : List ByteArray) : List ByteArray := lstS (setS l)
theorem mem_srt (l : List ByteArray) (s : ByteArray) : s ∈ srt l ↔ s ∈ l := by unfold srt; rw [mem_lstS (goodS_set l), hasS_set]
theorem strKeys_nodup {D : DataW Unit} (h : GoodS D) : (strKeys D).Nodup := by
  obtain ⟨ht, es, rfl, hk⟩ := h
  obtain ⟨_, e1, hp⟩ := ht
  injection e1 with e1
  subst e1
  show (es.map fun p => strOf p.1).Nodup
  refine List.pairwise_map.2 (hp.imp_of_mem fun {p q} hp' hq' hne e => hne ?_)
  obtain ⟨a, ha⟩ := hk p hp'
  obtain ⟨b, hb⟩ := hk q hq'
  rw [ha, hb] at e ⊢
  exact congrArg _ e
def StrictS (l : List ByteArray) : Prop := l.Pairwise fun a b => a.data.toList < b.data.toList
theorem mem_keys (l : List ByteArray) (x : List UInt8) : x ∈ strKeys (setS l) ↔ (⟨x.toArray⟩ : ByteArray) ∈ l := by
  rw [← mem_srt l]
  unfold srt lstS
  rw [List.mem_map]
  constructor
  · intro h
    exact ⟨x, List.mem_mergeSort.2 h, rfl⟩
  · rintro ⟨y, hy, e⟩
    have : y = x := by
      have h := congrArg (fun b : ByteArray => b.data.toList) e
      simpa using h
    subst this
    exact List.mem_mergeSort.1 hy
theorem strict_srt {l : List ByteArray} (h : StrictS l) : srt l = l := by
  have nd : (l.map fun a => a.data.toList).Nodup := List.pairwise_map.2 (h.imp fun hlt e => by rw [e] at hlt; exact absurd hlt (List.lt_irrefl _))
  have hp : (strKeys (setS l)).Perm (l.map fun a => a.data.toList) := (List.perm_ext_iff_of_nodup (strKeys_nodup (goodS_set l)) nd).2 fun x => by
    rw [mem_keys, List.mem_map]
    constructor
    · intro hx
      exact ⟨_, hx, by simp⟩
    · rintro ⟨a, ha, rfl⟩
      rw [mk_data]
      exact ha
  have e : (l.map fun a => a.data.toList).mergeSort leB = l.map fun a => a.data.toList := List.mergeSort_of_pairwise (List.pairwise_map.2 (h.imp fun hlt => by
    have := List.le_of_lt hlt
    simpa [leB] using this))
  unfold srt lstS
  rw [mergeSort_of_perm hp, e, List.map_map]
  conv => rhs; rw [← List.map_id l]
  exact List.map_congr_left fun a _ => mk_data a
theorem lst_of {D : DataW Unit} (hg : GoodS D) {o : List ByteArray} (h : StrictS o) (hm : ∀ s, s ∈ o ↔ hasS D s = true) : o = lstS D := by
  rw [← strict_srt h]
  exact lstS_ext (goodS_set o) hg fun s => by rw [hasS_set]; exact hm s
end Go.Proofs.YtfmbadinfhpihaaGreat
namespace Go.Proofs.YtfmbadinfhpihaaGreat
open Go.RowKit Go.Maps Go.Sort

def fileD (x : ByteArray) (n : Int) : DataW Unit := .agg [.lit (.string x.data.toList), .lit (.int .i64 n)]
def unfile : DataW Unit → ByteArray × Int
  | .agg [.lit (.string l), .lit (.int _ n)] => (⟨l.toArray⟩, n)
  | _ => (⟨#[]⟩, 0)
theorem unfile_mk (x : ByteArray) (n : Int) : unfile (fileD x n) = (x, n) := by
  obtain ⟨⟨l⟩⟩ := x
  rfl
def fileAt (D : DataW Unit) (s : ByteArray) : ByteArray × Int := unfile (D.atKey (kS s) (fileD ⟨#[]⟩ 0))
def putF (D : DataW Unit) (s x : ByteArray) (n : Int) : DataW Unit := D.put (kS s) (fileD x n)
def delF (D : DataW Unit) (s : ByteArray) : DataW Unit := D.del (kS s)
/-- A map from texts to files; no file has more bytes synced than it has. -/
def GoodF (D : DataW Unit) : Prop := Tidy D ∧ ∃ es, D = .map es ∧ ∀ p ∈ es, ∃ s x n, p.1 = kS s ∧ p.2 = fileD x n ∧ 0 ≤ n ∧ n ≤ (x.size : Int)
section
variable {D : DataW Unit}
theorem goodF_none : GoodF (.map []) := ⟨tidy_empty, [], rfl, by simp⟩
theorem GoodF.put (h : GoodF D) (s x : ByteArray) {n : Int} (h0 : 0 ≤ n) (h1 : n ≤ (x.size : Int)) : GoodF (putF D s x n) := by
  obtain ⟨ht, es, rfl, hk⟩ := h
  refine ⟨ht.put (kS_key s) _, _, rfl, fun p hp => ?_⟩
  rcases mem_insert hp with h | h
  · exact ⟨s, x, n, by rw [h], by rw [h], h0, h1⟩
  · exact hk p ((List.mem_filter.1 h).1)
theorem GoodF.del (h : GoodF D) (s : ByteArray) : GoodF (delF D s) := by
  obtain ⟨ht, es, rfl, hk⟩ := h
  exact ⟨ht.del _, _, rfl, fun p hp => hk p ((List.mem_filter.1 hp).1)⟩
theorem GoodF.isMap (h : GoodF D) : IsMap D := h.1.isMap
theorem hasF_put (h : GoodF D) (a x : ByteArray) (n : Int) (s : ByteArray) : hasS (putF D a x n) s = true ↔ s = a ∨ hasS D s = true := by
  unfold hasS putF
  by_cases e : s = a
  · subst e
    simp [has_put_same h.isMap (kS_key s)]
  · rw [has_put_other (fun e' => e (kS_inj e'))]
    simp [e]
theorem hasF_del (a s : ByteArray) : hasS (delF D a) s = true ↔ s ≠ a ∧ hasS D s = true := hasS_del a s
theorem fileAt_put_same (h : GoodF D) (s x : ByteArray) (n : Int) : fileAt (putF D s x n) s = (x, n) := by
  unfold fileAt putF
  rw [atKey_put_same h.isMap (kS_key s), unfile_mk]
theorem fileAt_put_other {s a : ByteArray} (hne : s ≠ a) (x : ByteArray) (n : Int) : fileAt (putF D a x n) s = fileAt D s := by
  unfold fileAt putF
  rw [atKey_put_other (fun e => hne (kS_inj e))]
theorem fileAt_del_other {s a : ByteArray} (hne : s ≠ a) : fileAt (delF D a) s = fileAt D s := by
  unfold fileAt delF
  rw [atKey_del_other (fun e => hne (kS_inj e))]
theorem fileAt_none {s : ByteArray} (h : hasS D s = false) : fileAt D s = (⟨#[]⟩, 0) := by
  unfold fileAt
  rw [atKey_of_not_has h, unfile_mk]
theorem fileAt_form (h : GoodF D) (s : ByteArray) : D.atKey (kS s) (fileD ⟨#[]⟩ 0) = fileD (fileAt D s).1 (fileAt D s).2 ∧ 0 ≤ (fileAt D s).2 ∧ (fileAt D s).2 ≤ ((fileAt D s).1.size : Int) := by
  obtain ⟨_, es, rfl, hk⟩ := h
  unfold fileAt
  cases hf : es.find? (fun p => p.1.sameKey (kS s)) with
  | none =>
    have e : DataW.atKey (.map es) (kS s) (fileD ⟨#[]⟩ 0) = fileD ⟨#[]⟩ 0 := by simp only [DataW.atKey, hf]
    rw [e, unfile_mk]
    exact ⟨rfl, Int.le_refl _, Int.le_refl _⟩
  | some p =>
    have e : DataW.atKey (.map es) (kS s) (fileD ⟨#[]⟩ 0) = p.2 := by simp only [DataW.atKey, hf]
    obtain ⟨_, x, n, _, h2, h3, h4⟩ := hk p (List.mem_of_find?_eq_some hf)
    rw [e, h2, unfile_mk]
    exact ⟨rfl, h3, h4⟩

def sizeE (p : Lit × DataW Unit) : Nat := (unfile p.2).1.size
def totF : DataW Unit → Nat
  | .map es => (es.map sizeE).sum
  | _ => 0
theorem tot_insert (x : Lit × DataW Unit) : ∀ es : List (Lit × DataW Unit), ((DataW.insert x es).map sizeE).sum = (es.map sizeE).sum + sizeE x
  | [] => by simp [DataW.insert]
  | y :: r => by
    unfold DataW.insert
    split
    · simp only [List.map_cons, List.sum_cons]; omega
    · simp only [List.map_cons, List.sum_cons, tot_insert x r]; omega
theorem tot_strike {k : Lit} : ∀ es : List (Lit × DataW Unit), es.Pairwise (fun p q => p.1 ≠ q.1) →
    (es.map sizeE).sum = ((es.filter fun p => !p.1.sameKey k).map sizeE).sum + (unfile (DataW.atKey (.map es) k (fileD ⟨#[]⟩ 0))).1.size
  | [], _ => by simp [DataW.atKey, unfile_mk, ByteArray.size]
  | q :: r, hp => by
    obtain ⟨h1, h2⟩ := List.pairwise_cons.1 hp
    cases hq : q.1.sameKey k
    · have e : DataW.atKey (.map (q :: r)) k (fileD ⟨#[]⟩ 0) = DataW.atKey (.map r) k (fileD ⟨#[]⟩ 0) := by simp only [DataW.atKey, List.find?_cons, hq]
      have e2 : (q :: r).filter (fun p => !p.1.sameKey k) = q :: r.filter (fun p => !p.1.sameKey k) := by rw [List.filter_cons, hq]; rfl
      rw [e, e2]
      simp only [List.map_cons, List.sum_cons]
      rw [tot_strike (k := k) r h2]
      omega
    · have hr : r.filter (fun p => !p.1.sameKey k) = r := by
        refine List.filter_eq_self.2 fun p hpr => ?_
        rw [sameKey_ne (fun e => h1 p hpr ((WideAt.sameKey_eq hq).trans e.symm))]
        rfl
      have e : DataW.atKey (.map (q :: r)) k (fileD ⟨#[]⟩ 0) = q.2 := by simp only [DataW.atKey, List.find?_cons, hq]
      have e2 : (q :: r).filter (fun p => !p.1.sameKey k) = r := by rw [List.filter_cons, hq]; simpa using hr
      rw [e, e2]
      simp only [List.map_cons, List.sum_cons, sizeE]
      omega
theorem totF_del (h : GoodF D) (s : ByteArray) : totF D = totF (delF D s) + (fileAt D s).1.size := by
  obtain ⟨⟨_, rfl, hp⟩, _⟩ := h
  exact tot_strike _ hp
theorem totF_put (h : GoodF D) (s x : ByteArray) (n : Int) : totF (putF D s x n) = totF (delF D s) + x.size := by
  obtain ⟨⟨es, rfl, hp⟩, _⟩ := h
  show ((DataW.insert (kS s, fileD x n) _).map sizeE).sum = _
  rw [tot_insert]
  unfold sizeE
  rw [unfile_mk]
  rfl
theorem fileAt_le (h : GoodF D) (s : ByteArray) : (fileAt D s).1.size ≤ totF D := by have := totF_del h s; omega
theorem totF_put_le (h : GoodF D) (s x : ByteArray) (n : Int) : totF (putF D s x n) ≤ totF D + x.size := by have := totF_del h s; have := totF_put h s x n; omega
theorem totF_del_le (h : GoodF D) (s : ByteArray) : totF (delF D s) ≤ totF D := by have := totF_del h s; omega

/-- The bytes of the files that a round over the map has passed. -/
def leftTot (left : Lit → Bool) : DataW Unit → Nat
  | .map es => ((es.filter fun p => !left p.1).map sizeE).sum
  | _ => 0
theorem leftTot_start (h : GoodF D) : leftTot (Maps.has D) D = 0 := by
  obtain ⟨_, es, rfl, hk⟩ := h
  have e : es.filter (fun p => !Maps.has (.map es : DataW Unit) p.1) = [] := by
    refine List.filter_eq_nil_iff.2 fun p hp => ?_
    rw [has_eq]
    obtain ⟨s, _, _, h1, _⟩ := hk p hp
    have : es.any (fun q => q.1.sameKey p.1) = true := List.any_eq_true.2 ⟨p, hp, by rw [h1]; simp [kS, Lit.sameKey]⟩
    rw [this]
    decide
  show ((es.filter fun p => !Maps.has (.map es : DataW Unit) p.1).map sizeE).sum = 0
  rw [e]
  rfl
theorem leftTot_end {left : Lit → Bool} (h : GoodF D) (hl : ∀ k, left k = false) : leftTot left D = totF D := by
  obtain ⟨_, es, rfl, hk⟩ := h
  show ((es.filter fun p => !left p.1).map sizeE).sum = (es.map sizeE).sum
  rw [List.filter_eq_self.2 (fun p _ => by rw [hl]; rfl)]
theorem left_strike {left : Lit → Bool} {kl : Lit} (hl : left kl = true) : ∀ es : List (Lit × DataW Unit), es.Pairwise (fun p q => p.1 ≠ q.1) → ∀ p ∈ es, p.1 = kl → kl.sameKey kl = true →
    ((es.filter fun q => !(left q.1 && !q.1.sameKey kl)).map sizeE).sum = ((es.filter fun q => !left q.1).map sizeE).sum + sizeE p
  | [], _, p, hp, _, _ => by cases hp
  | q :: r, hq, p, hp, he, hs => by
    obtain ⟨h1, h2⟩ := List.pairwise_cons.1 hq
    rcases List.mem_cons.1 hp with rfl | hr
    · have e1 : r.filter (fun q => !(left q.1 && !q.1.sameKey kl)) = r.filter (fun q => !left q.1) := by
        refine List.filter_congr fun x hx => ?_
        rw [sameKey_ne (fun e => h1 x hx (he.trans e.symm))]
        simp
      have e2 : (p :: r).filter (fun q => !(left q.1 && !q.1.sameKey kl)) = p :: r.filter (fun q => !left q.1) := by
        rw [List.filter_cons, e1, he, hs]
        simp
      have e3 : (p :: r).filter (fun q => !left q.1) = r.filter (fun q => !left q.1) := by
        rw [List.filter_cons, he, hl]
        simp
      rw [e2, e3]
      simp only [List.map_cons, List.sum_cons]
      omega
    · have hne : q.1 ≠ kl := fun e => h1 p hr (e.trans he.symm)
      have ih := left_strike hl r h2 p hr he hs
      have e0 : (!(left q.1 && !q.1.sameKey kl)) = !left q.1 := by rw [sameKey_ne hne]; simp
      rw [List.filter_cons, List.filter_cons, e0]
      cases left q.1
      · simp only [Bool.not_false, if_true, List.map_cons, List.sum_cons]
        omega
      · simpa using ih
theorem leftTot_step (h : GoodF D) {left : Lit → Bool} {kl : Lit} {y : DataW Unit} (hl : left kl = true) (hat : ∀ zd, D.atKey kl zd = y) : leftTot (fun z => left z && !z.sameKey kl) D = leftTot left D + (unfile y).1.size := by
  have hh := has_true_of_atKey hat
  obtain ⟨⟨es, rfl, hp⟩, es', e, hk⟩ := h
  injection e with e
  subst e
  rw [has_eq, List.any_eq_true] at hh
  obtain ⟨p, hpm, hps⟩ := hh
  have hpe := WideAt.sameKey_eq hps
  obtain ⟨s, x, n, h1, h2, _⟩ := hk p hpm
  have hself : kl.sameKey kl = true := by rw [← hpe, h1]; simp [kS, Lit.sameKey]
  have hy : y = p.2 := by
    have h3 := hat (fileD ⟨#[]⟩ 0)
    have hf : (es.find? fun q => q.1.sameKey kl) = some p := by
      rw [List.find?_eq_some_iff_append]
      obtain ⟨a, b, rfl⟩ := List.append_of_mem hpm
      refine ⟨hps, a, b, rfl, fun q hq => ?_⟩
      have : q.1 ≠ p.1 := (List.pairwise_append.1 hp).2.2 q hq p (by simp)
      rw [sameKey_ne (fun e => this (e.trans hpe.symm))]
      rfl
    simp only [DataW.atKey, hf] at h3
    exact h3.symm
  rw [hy]
  exact left_strike hl es hp p hpm hpe hself
end

theorem sizeF_put {D : DataW Unit} (h : GoodF D) (s x : ByteArray) (n : Int) : Maps.size (putF D s x n) = if hasS D s then Maps.size D else Maps.size D + 1 := size_put h.1 _
theorem sizeF_del {D : DataW Unit} (h : GoodF D) (s : ByteArray) : Maps.size (delF D s) + (if hasS D s then 1 else 0) = Maps.size D := size_del h.1
/-- How a file reads. -/
def fileE : Value → Option (DataW Unit × List MemPlace)
  | .agg ⟨[.string s, .int .i64 n]⟩ => some (fileD s n, [])
  | _ => none
theorem fileE_mk (s : ByteArray) (n : Int) : fileE (.agg #[.string s, .int .i64 n]) = some (fileD s n, []) := rfl
theorem fileD_inj {x y : ByteArray} {m n : Int} (h : fileD x m = fileD y n) : x = y ∧ m = n := by
  have := congrArg unfile h
  rw [unfile_mk, unfile_mk] at this
  exact ⟨congrArg (·.1) this, congrArg (·.2) this⟩
theorem fileE_inv {v : Value} {z : DataW Unit × List MemPlace} (h : fileE v = some z) : ∃ s n, v = .agg #[.string s, .int .i64 n] ∧ z = (fileD s n, []) := by
  unfold fileE at h
  split at h
  · injection h with h
    exact ⟨_, _, rfl, h.symm⟩
  · cases h
end Go.Proofs.YtfmbadinfhpihaaGreat
