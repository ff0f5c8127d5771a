/-
  Accounts are of parties that there are, in plain words.
  Conditions: as each lemma says.
-/
import Derived.Test.YtnpkplegeddhcaaRefAllPlain
import Derived.Test.YtnpkplegeddhcaaRefDel2
import Derived.Test.YtnpkplegeddhcaaRefCmp
namespace Go.Proofs.Ytnpkplegeddhcaa
open Go.RowKit Go.Maps

section
variable {α : Type} [Kd α] {valid : ByteArray → Bool} {most : Nat} {ahead behind : α → Int}
theorem errR_parts {D : DataW Unit} {x : α} (h : errR valid most ahead behind D x = 0) : valid (Kd.key x) = true ∧ ahead x = 0 := by
  unfold errR at h
  split at h
  · cases h
  · rename_i h1
    split at h
    · exact absurd h (by assumption)
    · rename_i h2
      exact ⟨by simpa using h1, by simpa using h2⟩
end
structure Inv (st : Rf) : Prop where
  ok : st.Ok
  nameP : ∀ s, hasS st.p s = true → (recAt Party st.p s).name = s
  nameA : ∀ s, hasS st.a s = true → (recAt Account st.a s).name = s
  keyP : ∀ s, hasS st.p s = true → validS s = true ∨ s = bankS
  keyA : ∀ s, hasS st.a s = true → validS s = true ∨ s = bankS
  own : ∀ s, hasS st.a s = true → hasS st.p (recAt Account st.a s).party = true
theorem inv0 : Inv rf0 := by
  have hp : ∀ s, hasS rf0.p s = true → s = bankS := fun s h => ((hasR_put (goodR_none (α := Party)) _ _ _).1 h).elim id (fun h => by rw [hasS_none] at h; cases h)
  have ha : ∀ s, hasS rf0.a s = true → s = bankS := fun s h => ((hasR_put (goodR_none (α := Account)) _ _ _).1 h).elim id (fun h => by rw [hasS_none] at h; cases h)
  refine ⟨rf0_ok, ?_, ?_, fun s h => .inr (hp s h), fun s h => .inr (ha s h), ?_⟩
  · intro s h
    rw [hp s h]
    exact congrArg Party.name (recAt_put_same (goodR_none (α := Party)) bankS ⟨bankS, 0⟩)
  · intro s h
    rw [ha s h]
    exact congrArg Account.name (recAt_put_same (goodR_none (α := Account)) bankS ⟨bankS, bankS⟩)
  · intro s h
    rw [ha s h, show recAt Account rf0.a bankS = ⟨bankS, bankS⟩ from recAt_put_same (goodR_none (α := Account)) bankS _]
    exact (hasR_put (goodR_none (α := Party)) _ _ _).2 (.inl rfl)
theorem inv_addP {st : Rf} (h : Inv st) (x : Party) : Inv (addP st [x]) := by
  have hok := addP_ok h.ok [x]
  have e : addP st [x] = ⟨(stepR validS 20 (fun _ => 0) limP (0, st.p) x).2, st.a, st.s⟩ := by unfold addP; rw [outR_one]
  rw [e] at hok ⊢
  by_cases he : errR validS 20 (fun _ => 0) limP st.p x = 0
  · rw [stepR_ok he] at hok ⊢
    have hv := (errR_parts he).1
    have hg := h.ok.gp
    refine ⟨hok, ?_, h.nameA, ?_, h.keyA, fun s hs => (hasR_put hg _ _ _).2 (.inr (h.own s hs))⟩
    · intro s hs
      by_cases hsx : s = x.name
      · subst hsx
        exact congrArg Party.name (recAt_put_same hg x.name x)
      · have h2 := ((hasR_put hg _ _ _).1 hs).resolve_left hsx
        exact (congrArg Party.name (recAt_put_other hsx x)).trans (h.nameP s h2)
    · intro s hs
      rcases (hasR_put hg _ _ _).1 hs with h2 | h2
      · rw [h2]; exact .inl hv
      · exact h.keyP s h2
  · rw [stepR_bad he]
    exact h
theorem inv_addC {st : Rf} (h : Inv st) (x : Account) : Inv (addC st [x]) := by
  have hok := addC_ok h.ok [x]
  have e : addC st [x] = ⟨st.p, (stepR validS 20 (noParty st) (fun _ => 0) (0, st.a) x).2, st.s⟩ := by unfold addC; rw [outR_one]
  rw [e] at hok ⊢
  by_cases he : errR validS 20 (noParty st) (fun _ => 0) st.a x = 0
  · rw [stepR_ok he] at hok ⊢
    have hv := (errR_parts he).1
    have hpar : hasS st.p x.party = true := by
      have h2 := (errR_parts he).2
      unfold noParty at h2
      split at h2
      · assumption
      · cases h2
    have hg := h.ok.ga
    refine ⟨hok, h.nameP, ?_, h.keyP, ?_, ?_⟩
    · intro s hs
      by_cases hsx : s = x.name
      · subst hsx
        exact congrArg Account.name (recAt_put_same hg x.name x)
      · have h2 := ((hasR_put hg _ _ _).1 hs).resolve_left hsx
        exact (congrArg Account.name (recAt_put_other hsx x)).trans (h.nameA s h2)
    · intro s hs
      rcases (hasR_put hg _ _ _).1 hs with h2 | h2
      · rw [h2]; exact .inl hv
      · exact h.keyA s h2
    · intro s hs
      by_cases hsx : s = x.name
      · subst hsx
        show hasS st.p (recAt Account (putR st.a x.name x) x.name).party = true
        rw [recAt_put_same hg x.name x]
        exact hpar
      · have h2 := ((hasR_put hg _ _ _).1 hs).resolve_left hsx
        show hasS st.p (recAt Account (putR st.a x.name x) s).party = true
        rw [recAt_put_other hsx x]
        exact h.own s h2
  · rw [stepR_bad he]
    exact h
theorem rows_get {α : Type} [Kd α] {D : DataW Unit} {k : Nat} {y : α} (h : (rowsOf α D)[k]? = some y) : ∃ s, (lstS D)[k]? = some s ∧ y = recAt α D s := by
  unfold rowsOf at h
  rw [List.getElem?_map] at h
  cases hs : (lstS D)[k]? with
  | none => rw [hs] at h; cases h
  | some s =>
    rw [hs] at h
    injection h with h
    exact ⟨s, rfl, h.symm⟩
theorem rows_mem {α : Type} [Kd α] {D : DataW Unit} (hg : GoodR α D) {y : α} (h : y ∈ rowsOf α D) : ∃ s, hasS D s = true ∧ y = recAt α D s := by
  unfold rowsOf at h
  obtain ⟨s, hs, rfl⟩ := List.mem_map.1 h
  exact ⟨s, (mem_lstS hg.keys s).1 hs, rfl⟩
/-- The k-th party's name. -/
theorem party_at {st : Rf} (h : Inv st) {k : Nat} {y : Party} (hy : (rowsOf Party st.p)[k]? = some y) : (lstS st.p)[k]? = some y.name ∧ y.name.toList.isEmpty = false := by
  obtain ⟨s, hs, rfl⟩ := rows_get hy
  have hh := (mem_lstS h.ok.gp.keys s).1 (List.mem_of_getElem? hs)
  rw [h.nameP s hh]
  refine ⟨hs, ?_⟩
  rcases h.keyP s hh with h2 | h2
  · unfold validS at h2
    simp only [Bool.and_eq_true, decide_eq_true_eq] at h2
    have h3 := h2.1.1
    cases he : s.toList with
    | nil =>
      have h4 : s.size = s.toList.length := by rw [ByteArray.toList_eq]; rfl
      have h5 : s.size = 0 := by rw [h4, he]; rfl
      rw [h5] at h3
      exact absurd h3 (by decide)
    | cons _ _ => rfl
  · rw [h2]; decide +kernel
theorem own_mem {st : Rf} (h : Inv st) {p : ByteArray} (hp : p.toList.isEmpty = false) {y : Account} (hy : y ∈ ownRows st p) : y.party = p ∧ (validS y.name = true ∨ y.name = bankS) := by
  unfold ownRows at hy
  obtain ⟨h1, h2⟩ := List.mem_filter.1 hy
  unfold delB at h2
  rw [hp] at h2
  obtain ⟨s, hs, rfl⟩ := rows_mem h.ok.ga h1
  refine ⟨toList_inj (by simpa using h2), ?_⟩
  rw [h.nameA s hs]
  exact h.keyA s hs
/-- How many accounts have the first parties. -/
def sumTo (st : Rf) (k : Nat) : Nat := (((lstS st.p).take k).map fun s => (ownRows st s).length).sum
theorem sum_succ {st : Rf} {k : Nat} {s : ByteArray} (h : (lstS st.p)[k]? = some s) : sumTo st (k + 1) = sumTo st k + (ownRows st s).length := by
  unfold sumTo
  rw [take_snoc h, List.map_append, List.sum_append]
  simp
theorem own_le (st : Rf) (hok : st.Ok) (p : ByteArray) : (ownRows st p).length ≤ 20 := by
  unfold ownRows
  refine Nat.le_trans (List.length_filter_le _ _) ?_
  rw [rows_len hok.ga]
  exact hok.na
theorem sum_le (st : Rf) (hok : st.Ok) (k : Nat) : sumTo st k ≤ 20 * k := by
  induction k with
  | zero => simp [sumTo]
  | succ k ih =>
    cases h : (lstS st.p)[k]? with
    | none =>
      have : (lstS st.p).take (k + 1) = (lstS st.p).take k := by
        have hlen := List.getElem?_eq_none_iff.1 h
        rw [List.take_of_length_le (by omega), List.take_of_length_le hlen]
      unfold sumTo at ih ⊢
      rw [this]
      omega
    | some s =>
      rw [sum_succ h]
      have := own_le st hok s
      omega
theorem sum_zero : ∀ {l : List Nat}, (∀ x ∈ l, x = 0) → l.sum = 0
  | [], _ => rfl
  | x :: l, h => by rw [List.sum_cons, h x (by simp), sum_zero fun y hy => h y (by simp [hy])]
theorem ind_sum {ns : List ByteArray} (hnd : ns.Nodup) (a : ByteArray) (ha : a ∈ ns) : (ns.map fun s => if (a.toList == s.toList) = true then 1 else 0).sum = 1 := by
  induction ns with
  | nil => cases ha
  | cons n ns ih =>
    rw [List.map_cons, List.sum_cons]
    have hn := List.nodup_cons.1 hnd
    by_cases e : a = n
    · subst e
      have hz : (ns.map fun s => if (a.toList == s.toList) = true then 1 else 0).sum = 0 := by
        refine sum_zero fun x hx => ?_
        obtain ⟨s, hs, rfl⟩ := List.mem_map.1 hx
        rw [if_neg]
        intro h
        exact hn.1 ((toList_inj (beq_iff_eq.1 h)) ▸ hs)
      rw [hz]
      simp
    · rw [ih hn.2 ((List.mem_cons.1 ha).resolve_left e), if_neg (fun h => e (toList_inj (beq_iff_eq.1 h)))]
theorem count_sum {ns : List ByteArray} (hnd : ns.Nodup) (l : List Account) (hall : ∀ y ∈ l, y.party ∈ ns) : (ns.map fun s => (l.filter fun y => y.party.toList == s.toList).length).sum = l.length := by
  induction l with
  | nil =>
    exact sum_zero fun x hx => by
      obtain ⟨s, _, rfl⟩ := List.mem_map.1 hx
      rfl
  | cons y l ih =>
    have h1 : (fun s : ByteArray => ((y :: l).filter fun z => z.party.toList == s.toList).length) = fun s => (if (y.party.toList == s.toList) = true then 1 else 0) + (l.filter fun z => z.party.toList == s.toList).length := by
      funext s
      rw [List.filter_cons]
      split <;> simp <;> omega
    rw [h1]
    have h2 : ∀ (f g : ByteArray → Nat) (ns : List ByteArray), (ns.map fun s => f s + g s).sum = (ns.map f).sum + (ns.map g).sum := by
      intro f g ns
      induction ns with
      | nil => rfl
      | cons n ns ih => simp only [List.map_cons, List.sum_cons, ih]; omega
    rw [h2, ind_sum hnd y.party (hall y (by simp)), ih (fun z hz => hall z (by simp [hz])), List.length_cons]
    omega
theorem sum_all {st : Rf} (h : Inv st) : sumTo st (rowsOf Party st.p).length = (ownRows st ⟨#[]⟩).length := by
  have hl : (rowsOf Party st.p).length = (lstS st.p).length := by unfold rowsOf; rw [List.length_map]
  have hall : ownRows st ⟨#[]⟩ = rowsOf Account st.a := by
    unfold ownRows
    rw [List.filter_eq_self]
    intro y _
    unfold delB
    rw [show (⟨#[]⟩ : ByteArray).toList.isEmpty = true by decide +kernel]
    rfl
  unfold sumTo
  rw [hl, List.take_length, hall]
  have hc := count_sum (lstS_nodup h.ok.gp.keys) (rowsOf Account st.a) (fun y hy => by
    obtain ⟨s, hs, rfl⟩ := rows_mem h.ok.ga hy
    exact (mem_lstS h.ok.gp.keys _).2 (h.own s hs))
  rw [← hc]
  congr 1
  refine List.map_congr_left fun s hs => ?_
  have hh := (mem_lstS h.ok.gp.keys s).1 hs
  obtain ⟨k, hk, hks⟩ := List.getElem_of_mem hs
  have hy : (rowsOf Party st.p)[k]? = some (recAt Party st.p s) := by
    unfold rowsOf
    rw [List.getElem?_map, List.getElem?_eq_getElem hk, hks]
    rfl
  have he := (party_at h hy).2
  rw [h.nameP s hh] at he
  unfold ownRows
  congr 1
  refine List.filter_congr fun y _ => ?_
  unfold delB
  rw [he]
  simp
end Go.Proofs.Ytnpkplegeddhcaa
