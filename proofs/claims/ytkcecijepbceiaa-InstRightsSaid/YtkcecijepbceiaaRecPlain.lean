/-
  Records by their names, in plain words: what stands at a name; records that are added one by one.
  Conditions: as each lemma says.
-/
import Derived.Maps.RangeWalk
import Derived.Test.YtkcecijepbceiaaNamePlain
namespace Go.Proofs.Ytkcecijepbceiaa
open Go.RowKit Go.Maps Go.Sort

/-- A kind of record: how it lies in memory, how it is spoken of. -/
class Kd (α : Type) where
  val : α → Value
  dat : α → DataW Unit
  un : DataW Unit → α
  key : α → ByteArray
  ren : α → ByteArray → α
  zero : α
  E : Value → Option (DataW Unit × List MemPlace)
  un_dat : ∀ x, un (dat x) = x
  E_mk : ∀ x, E (val x) = some (dat x, [])
  E_inv : ∀ v z, E v = some z → ∃ x, v = val x ∧ z = (dat x, [])
section
variable {α : Type} [Kd α]
def recAt (α : Type) [Kd α] (D : DataW Unit) (s : ByteArray) : α := Kd.un (D.atKey (kS s) (Kd.dat (Kd.zero : α)))
def putR (D : DataW Unit) (s : ByteArray) (x : α) : DataW Unit := D.put (kS s) (Kd.dat x)
/-- A map from texts to records. -/
def GoodR (α : Type) [Kd α] (D : DataW Unit) : Prop := Tidy D ∧ ∃ es, D = .map es ∧ ∀ p ∈ es, ∃ (s : ByteArray) (x : α), p.1 = kS s ∧ p.2 = Kd.dat x
theorem goodR_none : GoodR α (.map []) := ⟨tidy_empty, [], rfl, by simp⟩
theorem GoodR.put {D : DataW Unit} (h : GoodR α D) (s : ByteArray) (x : α) : GoodR α (putR D s x) := by
  obtain ⟨ht, es, rfl, hk⟩ := h
  refine ⟨ht.put (kS_key s) _, _, rfl, fun p hp => ?_⟩
  rcases mem_insert hp with h | h
  · exact ⟨s, x, by rw [h], by rw [h]⟩
  · exact hk p ((List.mem_filter.1 h).1)
theorem GoodR.isMap {D : DataW Unit} (h : GoodR α D) : IsMap D := h.1.isMap
theorem GoodR.keys {D : DataW Unit} (h : GoodR α D) : GoodS D := by
  obtain ⟨ht, es, rfl, hk⟩ := h
  exact ⟨ht, es, rfl, fun p hp => by obtain ⟨s, _, e, _⟩ := hk p hp; exact ⟨_, e⟩⟩
theorem hasR_put {D : DataW Unit} (h : GoodR α D) (a : ByteArray) (x : α) (s : ByteArray) : hasS (putR D a x) s = true ↔ s = a ∨ hasS D s = true := by
  unfold hasS putR
  by_cases e : s = a
  · subst e
    simp [has_put_same h.isMap (kS_key s)]
  · rw [has_put_other (fun e' => e (kS_inj e'))]
    simp [e]
theorem recAt_put_same {D : DataW Unit} (h : GoodR α D) (s : ByteArray) (x : α) : recAt α (putR D s x) s = x := by
  unfold recAt putR
  rw [atKey_put_same h.isMap (kS_key s), Kd.un_dat]
theorem recAt_put_other {D : DataW Unit} {s a : ByteArray} (hne : s ≠ a) (x : α) : recAt α (putR D a x) s = recAt α D s := by
  unfold recAt putR
  rw [atKey_put_other (fun e => hne (kS_inj e))]
theorem recAt_none {D : DataW Unit} {s : ByteArray} (h : hasS D s = false) : recAt α D s = Kd.zero := by
  unfold recAt
  rw [atKey_of_not_has h, Kd.un_dat]
theorem recAt_form {D : DataW Unit} (h : GoodR α D) (s : ByteArray) : D.atKey (kS s) (Kd.dat (Kd.zero : α)) = Kd.dat (recAt α D s) := by
  obtain ⟨_, es, rfl, hk⟩ := h
  unfold recAt
  cases hf : es.find? (fun p => p.1.sameKey (kS s)) with
  | none =>
    have e : DataW.atKey (.map es) (kS s) (Kd.dat (Kd.zero : α)) = Kd.dat (Kd.zero : α) := by simp only [DataW.atKey, hf]
    rw [e, Kd.un_dat]
  | some p =>
    have e : DataW.atKey (.map es) (kS s) (Kd.dat (Kd.zero : α)) = p.2 := by simp only [DataW.atKey, hf]
    obtain ⟨_, x, _, h2⟩ := hk p (List.mem_of_find?_eq_some hf)
    rw [e, h2, Kd.un_dat]
theorem size_putR {D : DataW Unit} (h : GoodR α D) (s : ByteArray) (x : α) : Maps.size (putR D s x) = if hasS D s then Maps.size D else Maps.size D + 1 := size_put h.1 _
theorem dat_inj {x y : α} (h : Kd.dat x = Kd.dat y) : x = y := by
  have := congrArg (Kd.un (α := α)) h
  rwa [Kd.un_dat, Kd.un_dat] at this

/-! ### several that are added -/
/-- What is wrong with one more; 0: nothing. -/
def errR (valid : ByteArray → Bool) (most : Nat) (ahead behind : α → Int) (out : DataW Unit) (x : α) : Int :=
  if valid (Kd.key x) = false then 9 else if ahead x ≠ 0 then ahead x else if hasS out (Kd.key x) = true then 8 else if behind x ≠ 0 then behind x else if most ≤ Maps.size out then 10 else 0
def stepR (valid : ByteArray → Bool) (most : Nat) (ahead behind : α → Int) (st : Int × DataW Unit) (x : α) : Int × DataW Unit :=
  if st.1 ≠ 0 then st else (errR valid most ahead behind st.2 x, if errR valid most ahead behind st.2 x = 0 then putR st.2 (Kd.key x) x else st.2)
def goR (valid : ByteArray → Bool) (most : Nat) (ahead behind : α → Int) (had : DataW Unit) (l : List α) : Int × DataW Unit := l.foldl (stepR valid most ahead behind) (0, had)
section
variable {valid : ByteArray → Bool} {most : Nat} {ahead behind : α → Int}
theorem stepR_off {st : Int × DataW Unit} (h : st.1 ≠ 0) (x : α) : stepR valid most ahead behind st x = st := by unfold stepR; rw [if_pos h]
theorem goR_off {st : Int × DataW Unit} (h : st.1 ≠ 0) (l : List α) : l.foldl (stepR valid most ahead behind) st = st := by
  induction l with
  | nil => rfl
  | cons x l ih => rw [List.foldl_cons, stepR_off h]; exact ih
theorem stepR_bad {D : DataW Unit} {x : α} (h : errR valid most ahead behind D x ≠ 0) : stepR valid most ahead behind (0, D) x = (errR valid most ahead behind D x, D) := by
  unfold stepR
  rw [if_neg (by simp), if_neg h]
theorem stepR_ok {D : DataW Unit} {x : α} (h : errR valid most ahead behind D x = 0) : stepR valid most ahead behind (0, D) x = (0, putR D (Kd.key x) x) := by
  unfold stepR
  rw [if_neg (by simp), h, if_pos rfl]
/-- Where one is wrong all behind it are passed over. -/
theorem goR_bad {had D : DataW Unit} {l : List α} {k : Nat} {x : α} (hx : l[k]? = some x) (hk : goR valid most ahead behind had (l.take k) = (0, D)) (h : errR valid most ahead behind D x ≠ 0) : (goR valid most ahead behind had l).1 = errR valid most ahead behind D x := by
  unfold goR at hk ⊢
  have hsp : l = l.take (k + 1) ++ l.drop (k + 1) := (List.take_append_drop _ _).symm
  rw [hsp, List.foldl_append, take_snoc hx, List.foldl_append, hk, List.foldl_cons, List.foldl_nil, stepR_bad h, goR_off (by exact h)]
theorem goR_step {had D : DataW Unit} {l : List α} {k : Nat} {x : α} (hx : l[k]? = some x) (hk : goR valid most ahead behind had (l.take k) = (0, D)) (h : errR valid most ahead behind D x = 0) : goR valid most ahead behind had (l.take (k + 1)) = (0, putR D (Kd.key x) x) := by
  unfold goR at hk ⊢
  rw [take_snoc hx, List.foldl_append, hk, List.foldl_cons, List.foldl_nil, stepR_ok h]
/-- What is had behind several. -/
def outR (valid : ByteArray → Bool) (most : Nat) (ahead behind : α → Int) (had : DataW Unit) (l : List α) : DataW Unit := if (goR valid most ahead behind had l).1 = 0 then (goR valid most ahead behind had l).2 else had
theorem stepR_good {st : Int × DataW Unit} (h : GoodR α st.2 ∧ Maps.size st.2 ≤ most) (x : α) : GoodR α (stepR valid most ahead behind st x).2 ∧ Maps.size (stepR valid most ahead behind st x).2 ≤ most := by
  unfold stepR
  split
  · exact h
  · by_cases e : errR valid most ahead behind st.2 x = 0
    · simp only [e, if_true]
      refine ⟨h.1.put _ _, ?_⟩
      rw [size_putR h.1]
      unfold errR at e
      split
      · exact h.2
      · split at e
        · cases e
        · split at e
          · exact absurd e (by assumption)
          · split at e
            · exact absurd e (by assumption)
            · split at e
              · cases e
              · omega
    · simp only [if_neg e]
      exact h
theorem goR_good {had : DataW Unit} (h : GoodR α had ∧ Maps.size had ≤ most) (l : List α) : GoodR α (goR valid most ahead behind had l).2 ∧ Maps.size (goR valid most ahead behind had l).2 ≤ most := by
  unfold goR
  have : ∀ st : Int × DataW Unit, GoodR α st.2 ∧ Maps.size st.2 ≤ most → GoodR α (l.foldl (stepR valid most ahead behind) st).2 ∧ Maps.size (l.foldl (stepR valid most ahead behind) st).2 ≤ most := by
    induction l with
    | nil => intro st h; exact h
    | cons x l ih => intro st h; exact ih _ (stepR_good h x)
  exact this _ h
end
end
end Go.Proofs.Ytkcecijepbceiaa
