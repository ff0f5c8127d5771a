/-
 strings.Clone as a contract over this seat's translation; turned from the library's walk over any program.
 Conditions: a text of at most 2^48 bytes.
-/
import Derived.Maps.OwnSet
import Derived.Maps.OwnOps
import Derived.Sort.KeysCollected
import Derived.Test.YtnpkplegeddhcaaGreatWords2
import Derived.Maps.RangeWalk
import Derived.WalkKit
import Derived.Lib.Strings
import Derived.Lib.Slices
import Derived.Lib.Walk
import Derived.Lib.Builder
import Derived.Lib.AppendStr
import Derived.Lib.UnsafeStr
import Derived.Lib.BufferWrite
import Derived.Lib.Hide
import Derived.Laws.MakeOwn
import Derived.Laws.Externs
import Derived.Laws.IdiomCopy
import Derived.KernelRfl
import Derived.Test.YtnpkplegeddhcaaGreatProg
namespace Go.Proofs.YtnpkplegeddhcaaGreat
open Go.RowKit Go.Maps Go.Sort

def kS (s : ByteArray) : Lit := .string s.data.toList
theorem kS_inj {a b : ByteArray} (h : kS a = kS b) : a = b := by
 unfold kS at h
 injection h with h
 obtain ⟨a⟩ := a
 obtain ⟨b⟩ := b
 exact congrArg ByteArray.mk (Array.toList_inj.1 h)
theorem kS_key (s : ByteArray) : WideAt.IsKeyLit (kS s) := by simp [WideAt.IsKeyLit, kS]
def hasS (D : DataW Unit) (s : ByteArray) : Bool := Maps.has D (kS s)
/-- One text more, if it is not there. -/
def addOne (D : DataW Unit) (s : ByteArray) : DataW Unit := if hasS D s = true then D else D.put (kS s) (.agg [])
def addS (D : DataW Unit) (l : List ByteArray) : DataW Unit := l.foldl addOne D
def delS (D : DataW Unit) (l : List ByteArray) : DataW Unit := l.foldl (fun m s => m.del (kS s)) D
def setS (l : List ByteArray) : DataW Unit := addS (.map []) l
def lstS (D : DataW Unit) : List ByteArray := ((strKeys D).mergeSort leB).map fun x => ⟨x.toArray⟩
theorem addS_step {D : DataW Unit} {l : List ByteArray} {k : Nat} {d : ByteArray} (h : l[k]? = some d) : addS D (l.take (k + 1)) = addOne (addS D (l.take k)) d := by
 unfold addS
 rw [take_snoc h, List.foldl_append]
 rfl
theorem delS_step {D : DataW Unit} {l : List ByteArray} {k : Nat} {d : ByteArray} (h : l[k]? = some d) : delS D (l.take (k + 1)) = (delS D (l.take k)).del (kS d) := by
 unfold delS
 rw [take_snoc h, List.foldl_append]
 rfl

theorem delS_none (l : List ByteArray) : delS (.map []) l = .map [] := by
 unfold delS
 induction l with
 | nil => rfl
 | cons x l ih => exact ih
theorem mem_insert {x p : Lit × DataW Unit} : ∀ {l : List (Lit × DataW Unit)}, p ∈ DataW.insert x l → p = x ∨ p ∈ l
 | [], h => .inl (by simpa [DataW.insert] using h)
 | y :: l, h => by
  unfold DataW.insert at h
  split at h
  ·simp only [List.mem_cons] at h
   rcases h with h | h | h
   ·exact .inl h
   ·exact .inr (by simp [h])
   ·exact .inr (by simp [h])
  ·simp only [List.mem_cons] at h
   rcases h with h | h
   ·exact .inr (by simp [h])
   ·rcases mem_insert h with h | h
    ·exact .inl h
    ·exact .inr (by simp [h])
/-- A map whose keys are texts. -/
def GoodS (D : DataW Unit) : Prop := Tidy D ∧ ∃ es, D = .map es ∧ ∀ p ∈ es, ∃ x, p.1 = .string x
theorem goodS_none : GoodS (.map []) := ⟨tidy_empty, [], rfl, by simp⟩
theorem GoodS.put {D : DataW Unit} (h : GoodS D) (s : ByteArray) : GoodS (D.put (kS s) (.agg [])) := by
 obtain ⟨ht, es, rfl, hk⟩ := h
 refine ⟨ht.put (kS_key s) _, _, rfl, fun p hp => ?_⟩
 rcases mem_insert hp with h | h
 ·exact ⟨_, by rw [h]; rfl⟩
 ·exact hk p ((List.mem_filter.1 h).1)
theorem GoodS.one {D : DataW Unit} (h : GoodS D) (s : ByteArray) : GoodS (addOne D s) := by
 unfold addOne
 split
 ·exact h
 ·exact h.put s
theorem GoodS.del {D : DataW Unit} (h : GoodS D) (s : ByteArray) : GoodS (D.del (kS s)) := by
 obtain ⟨ht, es, rfl, hk⟩ := h
 exact ⟨ht.del _, _, rfl, fun p hp => hk p ((List.mem_filter.1 hp).1)⟩
theorem GoodS.add {D : DataW Unit} (h : GoodS D) (l : List ByteArray) : GoodS (addS D l) := by
 unfold addS
 induction l generalizing D with
 | nil => exact h
 | cons x l ih => exact ih (h.one x)
theorem GoodS.dels {D : DataW Unit} (h : GoodS D) (l : List ByteArray) : GoodS (delS D l) := by
 unfold delS
 induction l generalizing D with
 | nil => exact h
 | cons x l ih => exact ih (h.del x)
theorem goodS_set (l : List ByteArray) : GoodS (setS l) := goodS_none.add l
theorem hasS_put {D : DataW Unit} (h : GoodS D) (a s : ByteArray) : hasS (D.put (kS a) (.agg [])) s = true ↔ s = a ∨ hasS D s = true := by
 unfold hasS
 by_cases e : s = a
 ·subst e
  simp [has_put_same h.1.isMap (kS_key s)]
 ·rw [has_put_other (fun e' => e (kS_inj e'))]
  simp [e]
theorem hasS_one {D : DataW Unit} (h : GoodS D) (a s : ByteArray) : hasS (addOne D a) s = true ↔ s = a ∨ hasS D s = true := by
 unfold addOne
 split
 ·rename_i h1
  constructor
  ·exact .inr
  ·rintro (rfl | h2)
   ·exact h1
   ·exact h2
 ·exact hasS_put h a s
theorem hasS_del {D : DataW Unit} (a s : ByteArray) : hasS (D.del (kS a)) s = true ↔ s ≠ a ∧ hasS D s = true := by
 unfold hasS
 by_cases e : s = a
 ·subst e
  simp [has_del_same]
 ·rw [has_del_other (fun e' => e (kS_inj e'))]
  simp [e]
theorem hasS_add {D : DataW Unit} (h : GoodS D) (l : List ByteArray) (s : ByteArray) : hasS (addS D l) s = true ↔ s ∈ l ∨ hasS D s = true := by
 unfold addS
 induction l generalizing D with
 | nil => simp
 | cons x l ih =>
  rw [List.foldl_cons, ih (h.one x), hasS_one h, List.mem_cons]
  constructor
  ·rintro (h1 | h1 | h1)
   ·exact .inl (.inr h1)
   ·exact .inl (.inl h1)
   ·exact .inr h1
  ·rintro ((h1 | h1) | h1)
   ·exact .inr (.inl h1)
   ·exact .inl h1
   ·exact .inr (.inr h1)
theorem hasS_dels {D : DataW Unit} (l : List ByteArray) (s : ByteArray) : hasS (delS D l) s = true ↔ s ∉ l ∧ hasS D s = true := by
 unfold delS
 induction l generalizing D with
 | nil => simp
 | cons x l ih =>
  rw [List.foldl_cons, ih, hasS_del, List.mem_cons]
  constructor
  ·rintro ⟨h1, h2, h3⟩
   exact ⟨fun h => h.elim h2 h1, h3⟩
  ·rintro ⟨h1, h2⟩
   exact ⟨fun h => h1 (.inr h), fun h => h1 (.inl h), h2⟩
theorem hasS_none (s : ByteArray) : hasS (.map []) s = false := rfl
theorem hasS_set (l : List ByteArray) (s : ByteArray) : hasS (setS l) s = true ↔ s ∈ l := by
 rw [setS, hasS_add goodS_none, hasS_none]
 simp
/-- The same texts: the same keys, in whatever order. -/
theorem strKeys_perm {D D' : DataW Unit} (h : GoodS D) (h' : GoodS D') (he : ∀ s, hasS D s = true ↔ hasS D' s = true) : (strKeys D).Perm (strKeys D') := by
 obtain ⟨ht, es, rfl, hk⟩ := h
 obtain ⟨ht', es', rfl, hk'⟩ := h'
 obtain ⟨_, e1, hp⟩ := ht
 injection e1 with e1
 subst e1
 obtain ⟨_, e2, hp'⟩ := ht'
 injection e2 with e2
 subst e2
 have nd : ∀ {es : List (Lit × DataW Unit)}, es.Pairwise (fun p q => p.1 ≠ q.1) → (∀ p ∈ es, ∃ x, p.1 = .string x) → (strKeys (.map es : DataW Unit)).Nodup := by
  intro es hp hk
  show (es.map fun p => strOf p.1).Nodup
  refine List.pairwise_map.2 (hp.imp_of_mem fun {p q} hp' hq' hne e => hne ?_)
  obtain ⟨a, ha⟩ := hk p hp'
  obtain ⟨b, hb⟩ := hk q hq'
  rw [ha, hb] at e ⊢
  exact congrArg _ e
 have mm : ∀ {es : List (Lit × DataW Unit)}, (∀ p ∈ es, ∃ x, p.1 = .string x) → ∀ x, x ∈ strKeys (.map es : DataW Unit) ↔ hasS (.map es) ⟨x.toArray⟩ = true := by
  intro es hk x
  unfold hasS
  rw [has_eq, List.any_eq_true]
  show x ∈ es.map (fun p => strOf p.1) ↔ _
  rw [List.mem_map]
  constructor
  ·rintro ⟨p, hp, rfl⟩
   obtain ⟨a, ha⟩ := hk p hp
   exact ⟨p, hp, by rw [ha]; simp [strOf, kS, Lit.sameKey]⟩
  ·rintro ⟨p, hp, h⟩
   obtain ⟨a, ha⟩ := hk p hp
   refine ⟨p, hp, ?_⟩
   rw [ha] at h ⊢
   by_cases e : (Lit.string a) = kS ⟨x.toArray⟩
   ·unfold kS at e
    injection e
   ·rw [sameKey_ne e] at h
    cases h
 refine (List.perm_ext_iff_of_nodup (nd hp hk) (nd hp' hk')).2 fun x => ?_
 rw [mm hk, mm hk', he]
theorem lstS_ext {D D' : DataW Unit} (h : GoodS D) (h' : GoodS D') (he : ∀ s, hasS D s = true ↔ hasS D' s = true) : lstS D = lstS D' := by
 unfold lstS
 rw [mergeSort_of_perm (strKeys_perm h h' he)]
theorem size_strKeys {D : DataW Unit} (h : GoodS D) : Maps.size D = (strKeys D).length := by
 obtain ⟨_, es, rfl, _⟩ := h
 rw [size_eq]
 simp [strKeys]
theorem size_ext {D D' : DataW Unit} (h : GoodS D) (h' : GoodS D') (he : ∀ s, hasS D s = true ↔ hasS D' s = true) : Maps.size D = Maps.size D' := by
 rw [size_strKeys h, size_strKeys h', (strKeys_perm h h' he).length_eq]
theorem lstS_len {D : DataW Unit} (h : GoodS D) : (lstS D).length = Maps.size D := by
 unfold lstS
 rw [List.length_map, List.length_mergeSort, size_strKeys h]
theorem size_addS {D : DataW Unit} (h : GoodS D) (l : List ByteArray) : Maps.size D ≤ Maps.size (addS D l) ∧ Maps.size (addS D l) ≤ Maps.size D + l.length := by
 unfold addS
 induction l generalizing D with
 | nil => simp
 | cons x l ih =>
  have h1 := ih (h.one x)
  have h2 := size_put (k := kS x) h.1 (.agg [] : DataW Unit)
  have h3 : Maps.size (addOne D x) = Maps.size D ∨ Maps.size (addOne D x) = Maps.size D + 1 := by
   unfold addOne
   split
   ·exact .inl rfl
   ·rw [h2]
    split
    ·exact .inl rfl
    ·exact .inr rfl
  simp only [List.foldl_cons, List.length_cons]
  omega
theorem size_delS {D : DataW Unit} (h : GoodS D) (l : List ByteArray) : Maps.size (delS D l) ≤ Maps.size D := by
 unfold delS
 induction l generalizing D with
 | nil => simp
 | cons x l ih =>
  have h1 := ih (h.del x)
  have h2 := size_del (k := kS x) h.1
  simp only [List.foldl_cons]
  omega
theorem size_set (l : List ByteArray) : Maps.size (setS l) ≤ l.length := by
 have h := (size_addS goodS_none l).2
 simpa [size_eq, setS] using h
end Go.Proofs.YtnpkplegeddhcaaGreat
namespace Go.Proofs.YtnpkplegeddhcaaGreat
open Go.RowKit Go.Maps Go.Sort

/-- A kind of record: how it lies in memory, how it is spoken of. -/
class Kd (α : Type) where
 val : α → Value
 dat : α → DataW Unit
 un : DataW Unit → α
 key : α → ByteArray
 ren : α → ByteArray → α
 zero : α
 E : Value → Option (DataW Unit × List MemPlace)
 un_dat : ∀ x, un (dat x) = x
 E_mk : ∀ x, E (val x) = some (dat x, [])
 E_inv : ∀ v z, E v = some z → ∃ x, v = val x ∧ z = (dat x, [])
section
variable {α : Type} [Kd α]
def recAt (α : Type) [Kd α] (D : DataW Unit) (s : ByteArray) : α := Kd.un (D.atKey (kS s) (Kd.dat (Kd.zero : α)))
def putR (D : DataW Unit) (s : ByteArray) (x : α) : DataW Unit := D.put (kS s) (Kd.dat x)
/-- A map from texts to records. -/
def GoodR (α : Type) [Kd α] (D : DataW Unit) : Prop := Tidy D ∧ ∃ es, D = .map es ∧ ∀ p ∈ es, ∃ (s : ByteArray) (x : α), p.1 = kS s ∧ p.2 = Kd.dat x
theorem goodR_none : GoodR α (.map []) := ⟨tidy_empty, [], rfl, by simp⟩
theorem GoodR.put {D : DataW Unit} (h : GoodR α D) (s : ByteArray) (x : α) : GoodR α (putR D s x) := by
 obtain ⟨ht, es, rfl, hk⟩ := h
 refine ⟨ht.put (kS_key s) _, _, rfl, fun p hp => ?_⟩
 rcases mem_insert hp with h | h
 ·exact ⟨s, x, by rw [h], by rw [h]⟩
 ·exact hk p ((List.mem_filter.1 h).1)
theorem GoodR.isMap {D : DataW Unit} (h : GoodR α D) : IsMap D := h.1.isMap
theorem GoodR.keys {D : DataW Unit} (h : GoodR α D) : GoodS D := by
 obtain ⟨ht, es, rfl, hk⟩ := h
 exact ⟨ht, es, rfl, fun p hp => by obtain ⟨s, _, e, _⟩ := hk p hp; exact ⟨_, e⟩⟩
theorem hasR_put {D : DataW Unit} (h : GoodR α D) (a : ByteArray) (x : α) (s : ByteArray) : hasS (putR D a x) s = true ↔ s = a ∨ hasS D s = true := by
 unfold hasS putR
 by_cases e : s = a
 ·subst e
  simp [has_put_same h.isMap (kS_key s)]
 ·rw [has_put_other (fun e' => e (kS_inj e'))]
  simp [e]
theorem recAt_put_same {D : DataW Unit} (h : GoodR α D) (s : ByteArray) (x : α) : recAt α (putR D s x) s = x := by
 unfold recAt putR
 rw [atKey_put_same h.isMap (kS_key s), Kd.un_dat]
theorem recAt_put_other {D : DataW Unit} {s a : ByteArray} (hne : s ≠ a) (x : α) : recAt α (putR D a x) s = recAt α D s := by
 unfold recAt putR
 rw [atKey_put_other (fun e => hne (kS_inj e))]
theorem recAt_none {D : DataW Unit} {s : ByteArray} (h : hasS D s = false) : recAt α D s = Kd.zero := by
 unfold recAt
 rw [atKey_of_not_has h, Kd.un_dat]
theorem recAt_form {D : DataW Unit} (h : GoodR α D) (s : ByteArray) : D.atKey (kS s) (Kd.dat (Kd.zero : α)) = Kd.dat (recAt α D s) := by
 obtain ⟨_, es, rfl, hk⟩ := h
 unfold recAt
 cases hf : es.find? (fun p => p.1.sameKey (kS s)) with
 | none =>
  have e : DataW.atKey (.map es) (kS s) (Kd.dat (Kd.zero : α)) = Kd.dat (Kd.zero : α) := by simp only [DataW.atKey, hf]
  rw [e, Kd.un_dat]
 | some p =>
  have e : DataW.atKey (.map es) (kS s) (Kd.dat (Kd.zero : α)) = p.2 := by simp only [DataW.atKey, hf]
  obtain ⟨_, x, _, h2⟩ := hk p (List.mem_of_find?_eq_some hf)
  rw [e, h2, Kd.un_dat]
theorem size_putR {D : DataW Unit} (h : GoodR α D) (s : ByteArray) (x : α) : Maps.size (putR D s x) = if hasS D s then Maps.size D else Maps.size D + 1 := size_put h.1 _
theorem dat_inj {x y : α} (h : Kd.dat x = Kd.dat y) : x = y := by
 have := congrArg (Kd.un (α := α)) h
 rwa [Kd.un_dat, Kd.un_dat] at this

/-! ### several that are added -/
/-- What is wrong with one more; 0: nothing. -/
def errR (valid : ByteArray → Bool) (most : Nat) (ahead behind : α → Int) (out : DataW Unit) (x : α) : Int :=
 if valid (Kd.key x) = false then 9 else if ahead x ≠ 0 then ahead x else if hasS out (Kd.key x) = true then 8 else if behind x ≠ 0 then behind x else if most ≤ Maps.size out then 10 else 0
def stepR (valid : ByteArray → Bool) (most : Nat) (ahead behind : α → Int) (st : Int × DataW Unit) (x : α) : Int × DataW Unit :=
 if st.1 ≠ 0 then st else (errR valid most ahead behind st.2 x, if errR valid most ahead behind st.2 x = 0 then putR st.2 (Kd.key x) x else st.2)
def goR (valid : ByteArray → Bool) (most : Nat) (ahead behind : α → Int) (had : DataW Unit) (l : List α) : Int × DataW Unit := l.foldl (stepR valid most ahead behind) (0, had)
section
variable {valid : ByteArray → Bool} {most : Nat} {ahead behind : α → Int}
theorem stepR_off {st : Int × DataW Unit} (h : st.1 ≠ 0) (x : α) : stepR valid most ahead behind st x = st := by unfold stepR; rw [if_pos h]
theorem goR_off {st : Int × DataW Unit} (h : st.1 ≠ 0) (l : List α) : l.foldl (stepR valid most ahead behind) st = st := by
 induction l with
 | nil => rfl
 | cons x l ih => rw [List.foldl_cons, stepR_off h]; exact ih
theorem stepR_bad {D : DataW Unit} {x : α} (h : errR valid most ahead behind D x ≠ 0) : stepR valid most ahead behind (0, D) x = (errR valid most ahead behind D x, D) := by
 unfold stepR
 rw [if_neg (by simp), if_neg h]
theorem stepR_ok {D : DataW Unit} {x : α} (h : errR valid most ahead behind D x = 0) : stepR valid most ahead behind (0, D) x = (0, putR D (Kd.key x) x) := by
 unfold stepR
 rw [if_neg (by simp), h, if_pos rfl]
/-- Where one is wrong all behind it are passed over. -/
theorem goR_bad {had D : DataW Unit} {l : List α} {k : Nat} {x : α} (hx : l[k]? = some x) (hk : goR valid most ahead behind had (l.take k) = (0, D)) (h : errR valid most ahead behind D x ≠ 0) : (goR valid most ahead behind had l).1 = errR valid most ahead behind D x := by
 unfold goR at hk ⊢
 have hsp : l = l.take (k + 1) ++ l.drop (k + 1) := (List.take_append_drop _ _).symm
 rw [hsp, List.foldl_append, take_snoc hx, List.foldl_append, hk, List.foldl_cons, List.foldl_nil, stepR_bad h, goR_off (by exact h)]
theorem goR_step {had D : DataW Unit} {l : List α} {k : Nat} {x : α} (hx : l[k]? = some x) (hk : goR valid most ahead behind had (l.take k) = (0, D)) (h : errR valid most ahead behind D x = 0) : goR valid most ahead behind had (l.take (k + 1)) = (0, putR D (Kd.key x) x) := by
 unfold goR at hk ⊢
 rw [take_snoc hx, List.foldl_append, hk, List.foldl_cons, List.foldl_nil, stepR_ok h]
/-- What is had behind several. -/
def outR (valid : ByteArray → Bool) (most : Nat) (ahead behind : α → Int) (had : DataW Unit) (l : List α) : DataW Unit := if (goR valid most ahead behind had l).1 = 0 then (goR valid most ahead behind had l).2 else had
theorem stepR_good {st : Int × DataW Unit} (h : GoodR α st.2 ∧ Maps.size st.2 ≤ most) (x : α) : GoodR α (stepR valid most ahead behind st x).2 ∧ Maps.size (stepR valid most ahead behind st x).2 ≤ most := by
 unfold stepR
 split
 ·exact h
 ·by_cases e : errR valid most ahead behind st.2 x = 0
  ·simp only [e, if_true]
   refine ⟨h.1.put _ _, ?_⟩
   rw [size_putR h.1]
   unfold errR at e
   split
   ·exact h.2
   ·split at e
    ·cases e
    ·split at e
     ·exact absurd e (by assumption)
     ·split at e
      ·exact absurd e (by assumption)
      ·split at e
       ·cases e
       ·omega
  ·simp only [if_neg e]
   exact h
theorem goR_good {had : DataW Unit} (h : GoodR α had ∧ Maps.size had ≤ most) (l : List α) : GoodR α (goR valid most ahead behind had l).2 ∧ Maps.size (goR valid most ahead behind had l).2 ≤ most := by
 unfold goR
 have : ∀ st : Int × DataW Unit, GoodR α st.2 ∧ Maps.size st.2 ≤ most → GoodR α (l.foldl (stepR valid most ahead behind) st).2 ∧ Maps.size (l.foldl (stepR valid most ahead behind) st).2 ≤ most := by
  induction l with
  | nil => intro st h; exact h
  | cons x l ih => intro st h; exact ih _ (stepR_good h x)
 exact this _ h
end
end
end Go.Proofs.YtnpkplegeddhcaaGreat
namespace Go.Proofs.YtnpkplegeddhcaaGreat
open Go.RowKit Go.Maps Go.Sort
/-- The loop's answer: the first k stand ahead, the next one does not. -/
theorem takeWhile_at {β : Type} {p : β → Bool} : ∀ {P : List β} {k : Nat}, k ≤ P.length → (∀ (i : Nat) (x : β), i < k → P[i]? = some x → p x = true) → (∀ x, P[k]? = some x → p x = false) → P.takeWhile p = P.take k ∧ P.dropWhile p = P.drop k
 | [], k, _, _, _ => by simp
 | y :: P, 0, _, _, h2 => by
  have := h2 y rfl
  simp [this]
 | y :: P, k + 1, hk, h1, h2 => by
  have hy := h1 0 y (by omega) rfl
  have ih := takeWhile_at (P := P) (k := k) (p := p) (by simpa using hk) (fun i x hi hx => h1 (i + 1) x (by omega) (by simpa using hx)) (fun x hx => h2 x (by simpa using hx))
  simp [hy, ih.1, ih.2]
theorem mem_takeWhile {β : Type} {p : β → Bool} {P : List β} {y : β} (h : y ∈ P.takeWhile p) : y ∈ P := (List.takeWhile_sublist p).subset h
section
variable {α : Type} [Kd α]

def ltK (s : ByteArray) (x : α) : Bool := decide ((Kd.key x).data.toList < s.data.toList)
def isK (s : ByteArray) (x : α) : Bool := decide ((Kd.key x).data.toList = s.data.toList)
/-- One more, behind those whose names stand ahead. -/
def insK (P : List α) (x : α) : List α := P.takeWhile (ltK (Kd.key x)) ++ [x] ++ P.dropWhile (ltK (Kd.key x))
def findK (P : List α) (s : ByteArray) : Option α := P.find? (isK s)
theorem isK_iff {s : ByteArray} {x : α} : isK s x = true ↔ Kd.key x = s := by
 unfold isK
 rw [decide_eq_true_iff]
 constructor
 ·intro h
  cases hk : Kd.key x with
  | mk a =>
   rw [hk] at h
   cases s with
   | mk b =>
    cases a
    cases b
    simp at h
    rw [h]
 ·rintro rfl
  rfl
theorem isK_no {s : ByteArray} {x : α} (h : Kd.key x ≠ s) : isK s x = false := by
 cases e : isK s x
 ·rfl
 ·exact absurd (isK_iff.1 e) h
theorem insK_at {P : List α} {x : α} {k : Nat} (hk : k ≤ P.length) (h1 : ∀ (i : Nat) (y : α), i < k → P[i]? = some y → (Kd.key y).data.toList < (Kd.key x).data.toList) (h2 : ∀ y, P[k]? = some y → ¬ (Kd.key y).data.toList < (Kd.key x).data.toList) : insK P x = P.take k ++ [x] ++ P.drop k := by
 unfold insK
 have := takeWhile_at (p := ltK (Kd.key x)) hk (fun i y hi hy => decide_eq_true (h1 i y hi hy)) (fun y hy => decide_eq_false (h2 y hy))
 rw [this.1, this.2]
theorem insK_len (P : List α) (x : α) : (insK P x).length = P.length + 1 := by
 unfold insK
 have h : (P.takeWhile (ltK (Kd.key x))).length + (P.dropWhile (ltK (Kd.key x))).length = P.length := by
  rw [← List.length_append, List.takeWhile_append_dropWhile]
 simp only [List.length_append, List.length_cons, List.length_nil]
 omega
theorem findK_ins {P : List α} {x : α} (h : findK P (Kd.key x) = none) (s : ByteArray) : findK (insK P x) s = if isK s x then some x else findK P s := by
 unfold findK insK at *
 rw [List.find?_append, List.find?_append]
 have hP : P.find? (isK s) = ((P.takeWhile (ltK (Kd.key x))).find? (isK s)).or ((P.dropWhile (ltK (Kd.key x))).find? (isK s)) := by
  rw [← List.find?_append, List.takeWhile_append_dropWhile]
 by_cases e : isK s x = true
 ·have es := isK_iff.1 e
  subst es
  rw [if_pos e]
  have h1 : (P.takeWhile (ltK (Kd.key x))).find? (isK (Kd.key x)) = none := by
   rw [List.find?_eq_none] at h ⊢
   intro y hy
   exact h y (mem_takeWhile hy)
  rw [h1]
  simp [e]
 ·have e' : isK s x = false := by simpa using e
  rw [if_neg e, hP]
  simp [e']

/-- A list and a map have the same records. -/
structure SameK (D : DataW Unit) (P : List α) : Prop where
 good : GoodR α D
 len : P.length = Maps.size D
 find : ∀ s, findK P s = if hasS D s then some (recAt α D s) else none
theorem SameK.has {D : DataW Unit} {P : List α} (h : SameK D P) (s : ByteArray) : (findK P s).isSome = hasS D s := by
 rw [h.find s]
 cases hasS D s <;> simp
theorem SameK.none_ : SameK (α := α) (.map []) [] := ⟨goodR_none, rfl, fun s => by rw [if_neg (by show ¬ hasS (.map []) s = true; simp [hasS, Maps.has])]; rfl⟩
theorem SameK.put {D : DataW Unit} {P : List α} (h : SameK D P) {x : α} (hn : hasS D (Kd.key x) = false) : SameK (putR D (Kd.key x) x) (insK P x) := by
 refine ⟨h.good.put _ _, by rw [insK_len, h.len, size_putR h.good, hn]; rfl, fun s => ?_⟩
 have hf : findK P (Kd.key x) = none := by rw [h.find, hn]; rfl
 rw [findK_ins hf]
 by_cases e : isK s x = true
 ·have es := isK_iff.1 e
  subst es
  rw [if_pos e, if_pos ((hasR_put h.good _ _ _).2 (.inl rfl)), recAt_put_same h.good]
 ·have hne : s ≠ Kd.key x := fun e2 => e (isK_iff.2 e2.symm)
  rw [if_neg e, h.find, recAt_put_other hne]
  by_cases h9 : hasS D s = true
  ·rw [if_pos h9, if_pos ((hasR_put h.good _ _ _).2 (.inr h9))]
  ·rw [if_neg h9, if_neg (fun h2 => ((hasR_put h.good _ _ _).1 h2).elim hne h9)]

/-- What is wrong with one more, at a list. -/
def err8 (valid : ByteArray → Bool) (most : Nat) (ahead behind : α → Int) (P : List α) (x : α) : Int :=
 if valid (Kd.key x) = false then 9 else if ahead x ≠ 0 then ahead x else if (findK P (Kd.key x)).isSome = true then 8 else if behind x ≠ 0 then behind x else if most ≤ P.length then 10 else 0
section
variable {valid : ByteArray → Bool} {most : Nat} {ahead behind : α → Int}
theorem SameK.err {D : DataW Unit} {P : List α} (h : SameK D P) (x : α) : err8 valid most ahead behind P x = errR valid most ahead behind D x := by
 unfold err8 errR
 rw [h.has, h.len]
def step8 (valid : ByteArray → Bool) (most : Nat) (ahead behind : α → Int) (st : Int × List α) (x : α) : Int × List α :=
 if st.1 ≠ 0 then st else (err8 valid most ahead behind st.2 x, if err8 valid most ahead behind st.2 x = 0 then insK st.2 x else st.2)
def go8 (valid : ByteArray → Bool) (most : Nat) (ahead behind : α → Int) (had : List α) (l : List α) : Int × List α := l.foldl (step8 valid most ahead behind) (0, had)
theorem step8_off {st : Int × List α} (h : st.1 ≠ 0) (x : α) : step8 valid most ahead behind st x = st := by unfold step8; rw [if_pos h]
theorem go8_off {st : Int × List α} (h : st.1 ≠ 0) (l : List α) : l.foldl (step8 valid most ahead behind) st = st := by
 induction l with
 | nil => rfl
 | cons x l ih => rw [List.foldl_cons, step8_off h]; exact ih
theorem go8_bad {had D : List α} {l : List α} {k : Nat} {x : α} (hx : l[k]? = some x) (hk : go8 valid most ahead behind had (l.take k) = (0, D)) (h : err8 valid most ahead behind D x ≠ 0) : go8 valid most ahead behind had l = (err8 valid most ahead behind D x, D) := by
 unfold go8 at hk ⊢
 have hsp : l = l.take (k + 1) ++ l.drop (k + 1) := (List.take_append_drop _ _).symm
 have h1 : step8 valid most ahead behind (0, D) x = (err8 valid most ahead behind D x, D) := by unfold step8; rw [if_neg (by simp), if_neg h]
 rw [hsp, List.foldl_append, take_snoc hx, List.foldl_append, hk, List.foldl_cons, List.foldl_nil, h1, go8_off h]
theorem go8_step {had D : List α} {l : List α} {k : Nat} {x : α} (hx : l[k]? = some x) (hk : go8 valid most ahead behind had (l.take k) = (0, D)) (h : err8 valid most ahead behind D x = 0) : go8 valid most ahead behind had (l.take (k + 1)) = (0, insK D x) := by
 unfold go8 at hk ⊢
 have h1 : step8 valid most ahead behind (0, D) x = (0, insK D x) := by unfold step8; rw [if_neg (by simp), h, if_pos rfl]
 rw [take_snoc hx, List.foldl_append, hk, List.foldl_cons, List.foldl_nil, h1]
/-- What is had behind several, at a list. -/
def out8 (valid : ByteArray → Bool) (most : Nat) (ahead behind : α → Int) (had : List α) (l : List α) : List α := if (go8 valid most ahead behind had l).1 = 0 then (go8 valid most ahead behind had l).2 else had
theorem out8_bad {had D : List α} {l : List α} {k : Nat} {x : α} {e : Int} (hx : l[k]? = some x) (hk : go8 valid most ahead behind had (l.take k) = (0, D)) (he : err8 valid most ahead behind D x = e) (hne : e ≠ 0) : (go8 valid most ahead behind had l).1 = e ∧ out8 valid most ahead behind had l = had := by
 subst he
 have h := go8_bad hx hk hne
 exact ⟨by rw [h], by unfold out8; rw [h]; exact if_neg hne⟩
theorem out8_ok {had D : List α} {l : List α} (hk : go8 valid most ahead behind had l = (0, D)) : (go8 valid most ahead behind had l).1 = 0 ∧ out8 valid most ahead behind had l = D := by
 unfold out8
 rw [hk]
 exact ⟨rfl, if_pos rfl⟩
theorem SameK.step {D : DataW Unit} {P : List α} {e : Int} (h : SameK D P) (x : α) : (step8 valid most ahead behind (e, P) x).1 = (stepR valid most ahead behind (e, D) x).1 ∧ SameK (stepR valid most ahead behind (e, D) x).2 (step8 valid most ahead behind (e, P) x).2 := by
 unfold step8 stepR
 by_cases h0 : e ≠ 0
 ·rw [if_pos h0, if_pos h0]
  exact ⟨rfl, h⟩
 ·rw [if_neg h0, if_neg h0]
  simp only [h.err x]
  refine ⟨trivial, ?_⟩
  by_cases h1 : errR valid most ahead behind D x = 0
  ·rw [if_pos h1, if_pos h1]
   refine h.put ?_
   unfold errR at h1
   cases hh : hasS D (Kd.key x)
   ·rfl
   ·exfalso
    rw [hh] at h1
    split at h1
    ·cases h1
    ·split at h1
     ·exact absurd h1 (by assumption)
     ·simp at h1
  ·rw [if_neg h1, if_neg h1]
   exact h
theorem SameK.go {D : DataW Unit} {P : List α} (h : SameK D P) (l : List α) : (go8 valid most ahead behind P l).1 = (goR valid most ahead behind D l).1 ∧ SameK (goR valid most ahead behind D l).2 (go8 valid most ahead behind P l).2 := by
 unfold go8 goR
 have : ∀ (e : Int) (D : DataW Unit) (P : List α), SameK D P → (l.foldl (step8 valid most ahead behind) (e, P)).1 = (l.foldl (stepR valid most ahead behind) (e, D)).1 ∧ SameK (l.foldl (stepR valid most ahead behind) (e, D)).2 (l.foldl (step8 valid most ahead behind) (e, P)).2 := by
  induction l with
  | nil => intro e D P h; exact ⟨rfl, h⟩
  | cons x l ih =>
   intro e D P h
   have hs := h.step (valid := valid) (most := most) (ahead := ahead) (behind := behind) (e := e) x
   rw [List.foldl_cons, List.foldl_cons]
   have e1 : step8 valid most ahead behind (e, P) x = ((stepR valid most ahead behind (e, D) x).1, (step8 valid most ahead behind (e, P) x).2) := by rw [← hs.1]
   rw [e1]
   exact ih _ _ _ hs.2
 exact this 0 D P h
theorem SameK.out {D : DataW Unit} {P : List α} (h : SameK D P) (l : List α) : SameK (outR valid most ahead behind D l) (out8 valid most ahead behind P l) := by
 have hg := h.go (valid := valid) (most := most) (ahead := ahead) (behind := behind) l
 unfold outR out8
 rw [hg.1]
 split
 ·exact hg.2
 ·exact h
end
end
end Go.Proofs.YtnpkplegeddhcaaGreat
namespace Go.Proofs.YtnpkplegeddhcaaGreat
open Go.RowKit
namespace Bld
theorem info_byte : (Tryz.prog.info? 5).map (fun i => (i.zero, i.size, i.bytes)) = some (some (.int .u8 0), 1, 1) := by kernel_rfl
theorem cells_byte : Tryz.prog.cellsOf 5 = 1 := by kernel_rfl
end Bld

set_option maxRecDepth 10000 in
set_option maxHeartbeats 4000000 in
theorem clone_inner (s : ByteArray) (w : World) (hlim : s.size ≤ 281474976710656) :
  Calls Tryz.prog 195 #[.string s] w fun e w' => e = .returned (.string s) ∧ Below w.heap.size w w' := by
 by_cases h0 : s.size = 0
 ·have hs : s = ⟨#[]⟩ := by
   apply ByteArray.ext
   exact Array.eq_empty_of_size_eq_zero h0
  subst hs
  go_enter Tryz.func195, Tryz.ntmps195
  go_wp2
  go_ret
  exact ⟨rfl, Below.refl _ _⟩
 ·obtain ⟨i0, hi, hz0, hz1, hz2⟩ := info_parts Bld.info_byte
  have hinfo : (Tryz.prog.info? 5).map (·.size) = some 1 := by rw [hi]; simp [hz1]
  have hco : Tryz.prog.cellsOf 5 = 1 := Bld.cells_byte
  obtain ⟨M, hM⟩ : ∃ M, M = madeCells (Value.int .u8 0).cells (((s.size : Nat) : Int).toNat * i0.size) := ⟨_, rfl⟩
  have hMs : M.size = s.size := by rw [hM, size_madeCells, hz1]; simp
  have hmk : ∀ W : World, (Instr.makeSlice 261 (.int .i64 (s.size : Int)) (.int .i64 (s.size : Int))).run Tryz.prog W = .ok (.slice (some ⟨W.heap.size, 0, none⟩) s.size s.size) (W.alloc (.cells M 5)) := fun W => by
   have h := run_make (P := Tryz.prog) W 261 5 i0 (.int .u8 0) Tryz.underlying261 hi hz0 .i64 .i64 (s.size : Int) (s.size : Int) (by omega) (by omega) (by rw [hz2]; omega) (by omega)
   rw [← hM] at h
   simpa using h
  clear hM
  have hcp := Lib.run_copy_row_string (P := Tryz.prog) (w.alloc (.cells M 5)) 261 9 3 5 w.heap.size 0 s.size s.size s M 5 Tryz.underlying261 hinfo (heap_alloc_new w _) (Nat.le_refl _) (by omega)
  obtain ⟨Y, hY⟩ : ∃ Y, Y = (M.toList.take 0 ++ Lib.byteCells s.data.toList ++ M.toList.drop (0 + s.size)).toArray := ⟨_, rfl⟩
  rw [← hY] at hcp
  have hYl : Y.toList = Lib.byteCells s.data.toList := by
   rw [hY, List.toList_toArray, List.take_zero, List.nil_append, List.drop_of_length_le (by rw [Array.length_toList]; omega), List.append_nil]
  have hYs : Y.size = s.size := by rw [← Array.length_toList, hYl, Lib.byteCells_length, ← Lib.size_eq]
  have hgY : ((w.alloc (.cells M 5)).setRow w.heap.size Y).heap[w.heap.size]? = some (.cells Y 5 (0, 0)) := setRow_heap _ _ M _ 5 (0, 0) (heap_alloc_new w _)
  have hne : s.data.toList ≠ [] := fun e => h0 (by rw [Lib.size_eq, e]; rfl)
  have hUS := Lib.run_unsafeString_row (P := Tryz.prog) ((w.alloc (.cells M 5)).setRow w.heap.size Y) 262 3 9 5 Tryz.underlying262 hco w.heap.size Y.size (by unfold World.shape?; rw [hgY]) s.data.toList hne (by rw [← Lib.size_eq]; omega) (by rw [← Lib.size_eq]; omega)
   (fun j x hx => Lib.cells_of_row hgY Y.size j _ (by rw [List.take_of_length_le (by rw [Array.length_toList]; exact Nat.le_refl _), hYl]; simp [Lib.byteCells, hx]))
  rw [← Lib.size_eq] at hUS
  clear hY
  go_enter Tryz.func195, Tryz.ntmps195
  go_wp2
  go_ret
  have hb1 : Below w.heap.size w (w.alloc (.cells M 5)) := (Below.refl _ w).alloc (Nat.le_refl _) _
  have hb2 : Below w.heap.size (w.alloc (.cells M 5)) ((w.alloc (.cells M 5)).setRow w.heap.size Y) := ⟨rfl, rfl, rfl, by simp, fun k hk => setRow_other _ _ _ _ (by omega)⟩
  exact ⟨rfl, Lib.below_freeze (hb1.trans hb2) (p := ⟨w.heap.size, 0, none⟩) (Nat.le_refl _) _⟩

theorem clone_any (s : ByteArray) (w : World) (hlim : s.size ≤ 281474976710656) :
  Calls Tryz.prog 152 #[.string s] w fun e w' => e = .returned (.string s) ∧ Below w.heap.size w w' := by
 go_enter Tryz.func152, Tryz.ntmps152
 go_wp2_with (go_at_call 195; refine (clone_inner s _ hlim).mono ?_; rintro e w' ⟨rfl, hb⟩)
 go_ret
 exact ⟨rfl, hb⟩
end Go.Proofs.YtnpkplegeddhcaaGreat
