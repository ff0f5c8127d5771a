/-
  Records in a list by their names, in plain words: what stands at a name; one more put where its name stands; the list beside a map of the same records.
  Conditions: as each lemma says.
-/
import Derived.Test.YtkcecijepbceiaaRecPlain
namespace Go.Proofs.Ytkcecijepbceiaa
open Go.RowKit Go.Maps Go.Sort
/-- The loop's answer: the first k stand ahead, the next one does not. -/
theorem takeWhile_at {β : Type} {p : β → Bool} : ∀ {P : List β} {k : Nat}, k ≤ P.length → (∀ (i : Nat) (x : β), i < k → P[i]? = some x → p x = true) → (∀ x, P[k]? = some x → p x = false) → P.takeWhile p = P.take k ∧ P.dropWhile p = P.drop k
  | [], k, _, _, _ => by simp
  | y :: P, 0, _, _, h2 => by
    have := h2 y rfl
    simp [this]
  | y :: P, k + 1, hk, h1, h2 => by
    have hy := h1 0 y (by omega) rfl
    have ih := takeWhile_at (P := P) (k := k) (p := p) (by simpa using hk) (fun i x hi hx => h1 (i + 1) x (by omega) (by simpa using hx)) (fun x hx => h2 x (by simpa using hx))
    simp [hy, ih.1, ih.2]
theorem mem_takeWhile {β : Type} {p : β → Bool} {P : List β} {y : β} (h : y ∈ P.takeWhile p) : y ∈ P := (List.takeWhile_sublist p).subset h
section
variable {α : Type} [Kd α]

def ltK (s : ByteArray) (x : α) : Bool := decide ((Kd.key x).data.toList < s.data.toList)
def isK (s : ByteArray) (x : α) : Bool := decide ((Kd.key x).data.toList = s.data.toList)
/-- One more, behind those whose names stand ahead. -/
def insK (P : List α) (x : α) : List α := P.takeWhile (ltK (Kd.key x)) ++ [x] ++ P.dropWhile (ltK (Kd.key x))
def findK (P : List α) (s : ByteArray) : Option α := P.find? (isK s)
theorem isK_iff {s : ByteArray} {x : α} : isK s x = true ↔ Kd.key x = s := by
  unfold isK
  rw [decide_eq_true_iff]
  constructor
  · intro h
    cases hk : Kd.key x with
    | mk a =>
      rw [hk] at h
      cases s with
      | mk b =>
        cases a
        cases b
        simp at h
        rw [h]
  · rintro rfl
    rfl
theorem isK_no {s : ByteArray} {x : α} (h : Kd.key x ≠ s) : isK s x = false := by
  cases e : isK s x
  · rfl
  · exact absurd (isK_iff.1 e) h
theorem insK_at {P : List α} {x : α} {k : Nat} (hk : k ≤ P.length) (h1 : ∀ (i : Nat) (y : α), i < k → P[i]? = some y → (Kd.key y).data.toList < (Kd.key x).data.toList) (h2 : ∀ y, P[k]? = some y → ¬ (Kd.key y).data.toList < (Kd.key x).data.toList) : insK P x = P.take k ++ [x] ++ P.drop k := by
  unfold insK
  have := takeWhile_at (p := ltK (Kd.key x)) hk (fun i y hi hy => decide_eq_true (h1 i y hi hy)) (fun y hy => decide_eq_false (h2 y hy))
  rw [this.1, this.2]
theorem insK_len (P : List α) (x : α) : (insK P x).length = P.length + 1 := by
  unfold insK
  have h : (P.takeWhile (ltK (Kd.key x))).length + (P.dropWhile (ltK (Kd.key x))).length = P.length := by
    rw [← List.length_append, List.takeWhile_append_dropWhile]
  simp only [List.length_append, List.length_cons, List.length_nil]
  omega
theorem findK_ins {P : List α} {x : α} (h : findK P (Kd.key x) = none) (s : ByteArray) : findK (insK P x) s = if isK s x then some x else findK P s := by
  unfold findK insK at *
  rw [List.find?_append, List.find?_append]
  have hP : P.find? (isK s) = ((P.takeWhile (ltK (Kd.key x))).find? (isK s)).or ((P.dropWhile (ltK (Kd.key x))).find? (isK s)) := by
    rw [← List.find?_append, List.takeWhile_append_dropWhile]
  by_cases e : isK s x = true
  · have es := isK_iff.1 e
    subst es
    rw [if_pos e]
    have h1 : (P.takeWhile (ltK (Kd.key x))).find? (isK (Kd.key x)) = none := by
      rw [List.find?_eq_none] at h ⊢
      intro y hy
      exact h y (mem_takeWhile hy)
    rw [h1]
    simp [e]
  · have e' : isK s x = false := by simpa using e
    rw [if_neg e, hP]
    simp [e']

/-- A list and a map have the same records. -/
structure SameK (D : DataW Unit) (P : List α) : Prop where
  good : GoodR α D
  len : P.length = Maps.size D
  find : ∀ s, findK P s = if hasS D s then some (recAt α D s) else none
theorem SameK.has {D : DataW Unit} {P : List α} (h : SameK D P) (s : ByteArray) : (findK P s).isSome = hasS D s := by
  rw [h.find s]
  cases hasS D s <;> simp
theorem SameK.none_ : SameK (α := α) (.map []) [] := ⟨goodR_none, rfl, fun s => by rw [if_neg (by show ¬ hasS (.map []) s = true; simp [hasS, Maps.has])]; rfl⟩
theorem SameK.put {D : DataW Unit} {P : List α} (h : SameK D P) {x : α} (hn : hasS D (Kd.key x) = false) : SameK (putR D (Kd.key x) x) (insK P x) := by
  refine ⟨h.good.put _ _, by rw [insK_len, h.len, size_putR h.good, hn]; rfl, fun s => ?_⟩
  have hf : findK P (Kd.key x) = none := by rw [h.find, hn]; rfl
  rw [findK_ins hf]
  by_cases e : isK s x = true
  · have es := isK_iff.1 e
    subst es
    rw [if_pos e, if_pos ((hasR_put h.good _ _ _).2 (.inl rfl)), recAt_put_same h.good]
  · have hne : s ≠ Kd.key x := fun e2 => e (isK_iff.2 e2.symm)
    rw [if_neg e, h.find, recAt_put_other hne]
    by_cases h9 : hasS D s = true
    · rw [if_pos h9, if_pos ((hasR_put h.good _ _ _).2 (.inr h9))]
    · rw [if_neg h9, if_neg (fun h2 => ((hasR_put h.good _ _ _).1 h2).elim hne h9)]

/-- What is wrong with one more, at a list. -/
def err8 (valid : ByteArray → Bool) (most : Nat) (ahead behind : α → Int) (P : List α) (x : α) : Int :=
  if valid (Kd.key x) = false then 9 else if ahead x ≠ 0 then ahead x else if (findK P (Kd.key x)).isSome = true then 8 else if behind x ≠ 0 then behind x else if most ≤ P.length then 10 else 0
section
variable {valid : ByteArray → Bool} {most : Nat} {ahead behind : α → Int}
theorem SameK.err {D : DataW Unit} {P : List α} (h : SameK D P) (x : α) : err8 valid most ahead behind P x = errR valid most ahead behind D x := by
  unfold err8 errR
  rw [h.has, h.len]
def step8 (valid : ByteArray → Bool) (most : Nat) (ahead behind : α → Int) (st : Int × List α) (x : α) : Int × List α :=
  if st.1 ≠ 0 then st else (err8 valid most ahead behind st.2 x, if err8 valid most ahead behind st.2 x = 0 then insK st.2 x else st.2)
def go8 (valid : ByteArray → Bool) (most : Nat) (ahead behind : α → Int) (had : List α) (l : List α) : Int × List α := l.foldl (step8 valid most ahead behind) (0, had)
theorem step8_off {st : Int × List α} (h : st.1 ≠ 0) (x : α) : step8 valid most ahead behind st x = st := by unfold step8; rw [if_pos h]
theorem go8_off {st : Int × List α} (h : st.1 ≠ 0) (l : List α) : l.foldl (step8 valid most ahead behind) st = st := by
  induction l with
  | nil => rfl
  | cons x l ih => rw [List.foldl_cons, step8_off h]; exact ih
theorem go8_bad {had D : List α} {l : List α} {k : Nat} {x : α} (hx : l[k]? = some x) (hk : go8 valid most ahead behind had (l.take k) = (0, D)) (h : err8 valid most ahead behind D x ≠ 0) : go8 valid most ahead behind had l = (err8 valid most ahead behind D x, D) := by
  unfold go8 at hk ⊢
  have hsp : l = l.take (k + 1) ++ l.drop (k + 1) := (List.take_append_drop _ _).symm
  have h1 : step8 valid most ahead behind (0, D) x = (err8 valid most ahead behind D x, D) := by unfold step8; rw [if_neg (by simp), if_neg h]
  rw [hsp, List.foldl_append, take_snoc hx, List.foldl_append, hk, List.foldl_cons, List.foldl_nil, h1, go8_off h]
theorem go8_step {had D : List α} {l : List α} {k : Nat} {x : α} (hx : l[k]? = some x) (hk : go8 valid most ahead behind had (l.take k) = (0, D)) (h : err8 valid most ahead behind D x = 0) : go8 valid most ahead behind had (l.take (k + 1)) = (0, insK D x) := by
  unfold go8 at hk ⊢
  have h1 : step8 valid most ahead behind (0, D) x = (0, insK D x) := by unfold step8; rw [if_neg (by simp), h, if_pos rfl]
  rw [take_snoc hx, List.foldl_append, hk, List.foldl_cons, List.foldl_nil, h1]
/-- What is had behind several, at a list. -/
def out8 (valid : ByteArray → Bool) (most : Nat) (ahead behind : α → Int) (had : List α) (l : List α) : List α := if (go8 valid most ahead behind had l).1 = 0 then (go8 valid most ahead behind had l).2 else had
theorem out8_bad {had D : List α} {l : List α} {k : Nat} {x : α} {e : Int} (hx : l[k]? = some x) (hk : go8 valid most ahead behind had (l.take k) = (0, D)) (he : err8 valid most ahead behind D x = e) (hne : e ≠ 0) : (go8 valid most ahead behind had l).1 = e ∧ out8 valid most ahead behind had l = had := by
  subst he
  have h := go8_bad hx hk hne
  exact ⟨by rw [h], by unfold out8; rw [h]; exact if_neg hne⟩
theorem out8_ok {had D : List α} {l : List α} (hk : go8 valid most ahead behind had l = (0, D)) : (go8 valid most ahead behind had l).1 = 0 ∧ out8 valid most ahead behind had l = D := by
  unfold out8
  rw [hk]
  exact ⟨rfl, if_pos rfl⟩
theorem SameK.step {D : DataW Unit} {P : List α} {e : Int} (h : SameK D P) (x : α) : (step8 valid most ahead behind (e, P) x).1 = (stepR valid most ahead behind (e, D) x).1 ∧ SameK (stepR valid most ahead behind (e, D) x).2 (step8 valid most ahead behind (e, P) x).2 := by
  unfold step8 stepR
  by_cases h0 : e ≠ 0
  · rw [if_pos h0, if_pos h0]
    exact ⟨rfl, h⟩
  · rw [if_neg h0, if_neg h0]
    simp only [h.err x]
    refine ⟨trivial, ?_⟩
    by_cases h1 : errR valid most ahead behind D x = 0
    · rw [if_pos h1, if_pos h1]
      refine h.put ?_
      unfold errR at h1
      cases hh : hasS D (Kd.key x)
      · rfl
      · exfalso
        rw [hh] at h1
        split at h1
        · cases h1
        · split at h1
          · exact absurd h1 (by assumption)
          · simp at h1
    · rw [if_neg h1, if_neg h1]
      exact h
theorem SameK.go {D : DataW Unit} {P : List α} (h : SameK D P) (l : List α) : (go8 valid most ahead behind P l).1 = (goR valid most ahead behind D l).1 ∧ SameK (goR valid most ahead behind D l).2 (go8 valid most ahead behind P l).2 := by
  unfold go8 goR
  have : ∀ (e : Int) (D : DataW Unit) (P : List α), SameK D P → (l.foldl (step8 valid most ahead behind) (e, P)).1 = (l.foldl (stepR valid most ahead behind) (e, D)).1 ∧ SameK (l.foldl (stepR valid most ahead behind) (e, D)).2 (l.foldl (step8 valid most ahead behind) (e, P)).2 := by
    induction l with
    | nil => intro e D P h; exact ⟨rfl, h⟩
    | cons x l ih =>
      intro e D P h
      have hs := h.step (valid := valid) (most := most) (ahead := ahead) (behind := behind) (e := e) x
      rw [List.foldl_cons, List.foldl_cons]
      have e1 : step8 valid most ahead behind (e, P) x = ((stepR valid most ahead behind (e, D) x).1, (step8 valid most ahead behind (e, P) x).2) := by rw [← hs.1]
      rw [e1]
      exact ih _ _ _ hs.2
  exact this 0 D P h
theorem SameK.out {D : DataW Unit} {P : List α} (h : SameK D P) (l : List α) : SameK (outR valid most ahead behind D l) (out8 valid most ahead behind P l) := by
  have hg := h.go (valid := valid) (most := most) (ahead := ahead) (behind := behind) l
  unfold outR out8
  rw [hg.1]
  split
  · exact hg.2
  · exact h
end
end
end Go.Proofs.Ytkcecijepbceiaa
