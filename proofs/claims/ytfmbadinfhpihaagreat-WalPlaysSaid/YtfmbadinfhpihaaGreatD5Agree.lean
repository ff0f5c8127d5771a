/-
  The document's disk in plain words: what each operation does; the program's disk does the same.
  Conditions: each lemma's own premises.
-/
import Derived.Test.YtfmbadinfhpihaaGreatDiskPlain
import Derived.Test.YtfmbadinfhpihaaGreatDisk12
set_option linter.unusedVariables false
set_option linter.unusedSimpArgs false
namespace Go.Proofs.YtfmbadinfhpihaaGreat
open Go.RowKit Go.Maps Go.Sort
set_option maxRecDepth 100000

/-- A file of the document's disk. -/
structure Fl where
  name : ByteArray
  data : ByteArray
  safe : Int
instance : Kd Fl where
  val x := .agg #[.string x.name, .string x.data, .int .i64 x.safe]
  dat x := .agg [.lit (.string x.name.data.toList), .lit (.string x.data.data.toList), .lit (.int .i64 x.safe)]
  un D := match D with
    | .agg [.lit (.string a), .lit (.string b), .lit (.int _ n)] => ⟨⟨a.toArray⟩, ⟨b.toArray⟩, n⟩
    | _ => ⟨⟨#[]⟩, ⟨#[]⟩, 0⟩
  key x := x.name
  ren x s := ⟨s, x.data, x.safe⟩
  zero := ⟨⟨#[]⟩, ⟨#[]⟩, 0⟩
  E v := match v with
    | .agg ⟨[.string a, .string b, .int .i64 n]⟩ => some (.agg [.lit (.string a.data.toList), .lit (.string b.data.toList), .lit (.int .i64 n)], [])
    | _ => none
  un_dat x := by
    obtain ⟨⟨⟨l⟩⟩, ⟨⟨m⟩⟩, n⟩ := x
    rfl
  E_mk x := rfl
  E_inv v z h := by
    split at h
    · injection h with h
      rename_i a b n
      exact ⟨⟨a, b, n⟩, rfl, h.symm⟩
    · cases h
/-- A list whose names rise. -/
def StrictF (P : List Fl) : Prop := P.Pairwise fun a b => a.name.data.toList < b.name.data.toList
theorem strictF_ne {P : List Fl} (h : StrictF P) : P.Pairwise fun a b => a.name ≠ b.name := List.Pairwise.imp (fun {a b} hlt e => by rw [e] at hlt; exact List.lt_irrefl _ hlt) h
/-- A map and a list have the same files. -/
structure SameF (D : DataW Unit) (P : List Fl) : Prop where
  good : GoodF D
  strict : StrictF P
  mem : ∀ y : Fl, y ∈ P ↔ hasS D y.name = true ∧ fileAt D y.name = (y.data, y.safe)
  size : P.length = Maps.size D
  tot : (P.map (·.data.size)).sum = totF D
theorem sameF_none : SameF (.map []) [] := ⟨goodF_none, List.Pairwise.nil, fun y => ⟨fun h => by (cases h), fun h => by
  have := h.1
  simp [hasS, Maps.has] at this⟩, rfl, rfl⟩
section
variable {D : DataW Unit} {P L R : List Fl} {y : Fl}
/-- What stands at a name. -/
theorem SameF.there (h : SameF D P) {s : ByteArray} (hh : hasS D s = true) : (⟨s, (fileAt D s).1, (fileAt D s).2⟩ : Fl) ∈ P := (h.mem _).2 ⟨hh, rfl⟩
theorem findF_none {P : List Fl} {s : ByteArray} (h : ∀ y ∈ P, y.name ≠ s) : findK P s = none := by
  unfold findK
  rw [List.find?_eq_none]
  intro z hz e
  exact h z hz (isK_iff.1 e)
theorem SameF.find (h : SameF D P) (s : ByteArray) : findK P s = if hasS D s = true then some ⟨s, (fileAt D s).1, (fileAt D s).2⟩ else none := by
  by_cases hh : hasS D s = true
  · rw [if_pos hh]
    cases hf : findK P s with
    | none =>
      exfalso
      unfold findK at hf
      rw [List.find?_eq_none] at hf
      exact hf _ (h.there hh) (isK_iff.2 rfl)
    | some y =>
      have h1 := List.mem_of_find?_eq_some hf
      have h2 : y.name = s := isK_iff.1 (List.find?_some hf)
      have h3 := ((h.mem y).1 h1).2
      rw [h2] at h3
      rw [h3]
      cases y
      cases h2
      rfl
  · rw [if_neg hh]
    refine findF_none fun y hy e => hh ?_
    rw [← e]
    exact ((h.mem y).1 hy).1
theorem SameF.some (h : SameF D P) (s : ByteArray) : (findK P s).isSome = hasS D s := by
  rw [h.find s]
  cases hasS D s <;> simp
/-- The list's names are the map's, in order. -/
theorem SameF.names (h : SameF D P) : P.map (·.name) = lstS D := by
  refine lst_of h.good.keys (List.pairwise_map.2 h.strict) fun s => ?_
  rw [List.mem_map]
  constructor
  · rintro ⟨y, hy, rfl⟩
    exact ((h.mem y).1 hy).1
  · intro hh
    exact ⟨_, h.there hh, rfl⟩
theorem strict_mid (h : StrictF (L ++ y :: R)) : StrictF (L ++ R) ∧ (∀ z ∈ L ++ R, z.name ≠ y.name) := by
  have h1 := strictF_ne h
  unfold StrictF at h ⊢
  rw [List.pairwise_append] at h h1
  obtain ⟨a1, a2, a3⟩ := h
  obtain ⟨b1, b2, b3⟩ := h1
  rw [List.pairwise_cons] at a2 b2
  refine ⟨List.pairwise_append.2 ⟨a1, a2.2, fun u hu v hv => a3 u hu v (by simp [hv])⟩, fun z hz => ?_⟩
  rcases List.mem_append.1 hz with hz | hz
  · exact b3 z hz y (by simp)
  · exact fun e => b2.1 z hz e.symm
theorem strict_swap (h : StrictF (L ++ y :: R)) {z : Fl} (e : z.name = y.name) : StrictF (L ++ z :: R) := by
  unfold StrictF at h ⊢
  rw [List.pairwise_append] at h ⊢
  obtain ⟨a1, a2, a3⟩ := h
  rw [List.pairwise_cons] at a2
  refine ⟨a1, List.pairwise_cons.2 ⟨fun v hv => by rw [e]; exact a2.1 v hv, a2.2⟩, fun u hu v hv => ?_⟩
  rcases List.mem_cons.1 hv with rfl | hv
  · rw [e]; exact a3 u hu y (by simp)
  · exact a3 u hu v (by simp [hv])
theorem sum_mid (L R : List Fl) (y : Fl) : ((L ++ y :: R).map (·.data.size)).sum = ((L ++ R).map (·.data.size)).sum + y.data.size := by
  simp only [List.map_append, List.map_cons, List.sum_append, List.sum_cons]
  omega
/-- A file taken out. -/
theorem SameF.cut (h : SameF D (L ++ y :: R)) : SameF (delF D y.name) (L ++ R) := by
  obtain ⟨h1, h2⟩ := strict_mid h.strict
  have hy := (h.mem y).1 (by simp)
  refine ⟨h.good.del _, h1, fun z => ?_, ?_, ?_⟩
  · constructor
    · intro hz
      have hne := h2 z hz
      have := (h.mem z).1 (by rcases List.mem_append.1 hz with h3 | h3 <;> simp [h3])
      exact ⟨(hasF_del _ _).2 ⟨hne, this.1⟩, by rw [fileAt_del_other hne]; exact this.2⟩
    · rintro ⟨h3, h4⟩
      obtain ⟨hne, h5⟩ := (hasF_del _ _).1 h3
      rw [fileAt_del_other hne] at h4
      have := (h.mem z).2 ⟨h5, h4⟩
      rcases List.mem_append.1 this with h6 | h6
      · simp [h6]
      · rcases List.mem_cons.1 h6 with rfl | h6
        · exact absurd rfl hne
        · simp [h6]
  · have := sizeF_del h.good y.name
    rw [if_pos hy.1] at this
    have h3 := h.size
    simp only [List.length_append, List.length_cons] at h3 ⊢
    omega
  · have h3 := totF_del h.good y.name
    have h4 := h.tot
    rw [sum_mid] at h4
    rw [hy.2] at h3
    dsimp only at h3
    omega
/-- A file put where no other has its name. -/
theorem SameF.ins (h : SameF D (L ++ R)) (hs : StrictF (L ++ y :: R)) (hn : hasS D y.name = false) (h0 : 0 ≤ y.safe) (h1 : y.safe ≤ (y.data.size : Int)) : SameF (putF D y.name y.data y.safe) (L ++ y :: R) := by
  obtain ⟨_, h2⟩ := strict_mid hs
  refine ⟨h.good.put _ _ h0 h1, hs, fun z => ?_, ?_, ?_⟩
  · constructor
    · intro hz
      have : z = y ∨ z ∈ L ++ R := by
        rcases List.mem_append.1 hz with h3 | h3
        · exact .inr (by simp [h3])
        · rcases List.mem_cons.1 h3 with h3 | h3
          · exact .inl h3
          · exact .inr (by simp [h3])
      rcases this with rfl | hz
      · exact ⟨(hasF_put h.good _ _ _ _).2 (.inl rfl), fileAt_put_same h.good _ _ _⟩
      · have h3 := (h.mem z).1 hz
        exact ⟨(hasF_put h.good _ _ _ _).2 (.inr h3.1), by rw [fileAt_put_other (h2 z hz)]; exact h3.2⟩
    · rintro ⟨h3, h4⟩
      by_cases e : z.name = y.name
      · rw [e, fileAt_put_same h.good] at h4
        have : z = y := by
          cases z; cases y
          simp only [Prod.mk.injEq] at h4 e
          obtain ⟨rfl, rfl⟩ := h4
          rw [e]
        rw [this]; simp
      · rw [fileAt_put_other e] at h4
        have h5 := ((hasF_put h.good _ _ _ _).1 h3).resolve_left e
        have := (h.mem z).2 ⟨h5, h4⟩
        rcases List.mem_append.1 this with h6 | h6 <;> simp [h6]
  · rw [sizeF_put h.good, hn, if_neg (by decide)]
    have h3 := h.size
    simp only [List.length_append, List.length_cons] at h3 ⊢
    omega
  · have h3 := totF_del h.good y.name
    have h4 := totF_put h.good y.name y.data y.safe
    rw [fileAt_none hn] at h3
    have h5 := h.tot
    rw [sum_mid]
    have h6 : (⟨#[]⟩ : ByteArray).size = 0 := rfl
    dsimp only at h3
    omega
/-- What stands at a name is another one. -/
theorem SameF.repl (h : SameF D (L ++ y :: R)) {d : ByteArray} {n : Int} (h0 : 0 ≤ n) (h1 : n ≤ (d.size : Int)) : SameF (putF D y.name d n) (L ++ ⟨y.name, d, n⟩ :: R) := by
  obtain ⟨_, h2⟩ := strict_mid h.strict
  have hy := (h.mem y).1 (by simp)
  refine ⟨h.good.put _ _ h0 h1, strict_swap h.strict rfl, fun z => ?_, ?_, ?_⟩
  · constructor
    · intro hz
      have : z = ⟨y.name, d, n⟩ ∨ z ∈ L ++ R := by
        rcases List.mem_append.1 hz with h3 | h3
        · exact .inr (by simp [h3])
        · rcases List.mem_cons.1 h3 with h3 | h3
          · exact .inl h3
          · exact .inr (by simp [h3])
      rcases this with rfl | hz
      · exact ⟨(hasF_put h.good _ _ _ _).2 (.inl rfl), fileAt_put_same h.good _ _ _⟩
      · have h3 := (h.mem z).1 (by rcases List.mem_append.1 hz with h3 | h3 <;> simp [h3])
        exact ⟨(hasF_put h.good _ _ _ _).2 (.inr h3.1), by rw [fileAt_put_other (h2 z hz)]; exact h3.2⟩
    · rintro ⟨h3, h4⟩
      by_cases e : z.name = y.name
      · rw [e, fileAt_put_same h.good] at h4
        have : z = ⟨y.name, d, n⟩ := by
          cases z
          simp only [Prod.mk.injEq] at h4 e
          obtain ⟨rfl, rfl⟩ := h4
          rw [e]
        rw [this]; simp
      · rw [fileAt_put_other e] at h4
        have h5 := ((hasF_put h.good _ _ _ _).1 h3).resolve_left e
        have := (h.mem z).2 ⟨h5, h4⟩
        rcases List.mem_append.1 this with h6 | h6
        · simp [h6]
        · rcases List.mem_cons.1 h6 with rfl | h6
          · exact absurd rfl e
          · simp [h6]
  · rw [sizeF_put h.good, if_pos hy.1]
    have h3 := h.size
    simp only [List.length_append, List.length_cons] at h3 ⊢
    exact h3
  · have h3 := totF_del h.good y.name
    have h4 := totF_put h.good y.name d n
    rw [hy.2] at h3
    have h5 := h.tot
    rw [sum_mid] at h5 ⊢
    dsimp only at h3 ⊢
    omega
end
/-- What stands at a name, turned. -/
def updF (s : ByteArray) (f : Fl → Fl) : List Fl → List Fl
  | [] => []
  | y :: P => if y.name = s then f y :: P else y :: updF s f P
def cutF (s : ByteArray) : List Fl → List Fl
  | [] => []
  | y :: P => if y.name = s then P else y :: cutF s P
theorem updF_mid (s : ByteArray) (f : Fl → Fl) : ∀ {L R : List Fl} {y : Fl}, (∀ z ∈ L, z.name ≠ s) → y.name = s → updF s f (L ++ y :: R) = L ++ f y :: R ∧ cutF s (L ++ y :: R) = L ++ R
  | [], R, y, _, hy => by simp [updF, cutF, hy]
  | z :: L, R, y, h, hy => by
    have hz := h z (by simp)
    obtain ⟨h1, h2⟩ := updF_mid s f (L := L) (R := R) (fun u hu => h u (by simp [hu])) hy
    simp only [List.cons_append, updF, cutF, if_neg hz, h1, h2]
    exact ⟨trivial, trivial⟩
theorem updF_at {s : ByteArray} {f : Fl → Fl} {P : List Fl} {k : Nat} {y : Fl} (h : ∀ i z, i < k → P[i]? = some z → z.name ≠ s) (hk : P[k]? = some y) (hy : y.name = s) : updF s f P = P.set k (f y) ∧ cutF s P = P.take k ++ P.drop (k + 1) := by
  obtain ⟨hlt, he⟩ := List.getElem?_eq_some_iff.1 hk
  have hsp : P = P.take k ++ y :: P.drop (k + 1) := by
    conv => lhs; rw [← List.take_append_drop k P, List.drop_eq_getElem_cons hlt, he]
  have h1 := updF_mid s f (L := P.take k) (R := P.drop (k + 1)) (y := y) (fun z hz => by
    obtain ⟨i, hi⟩ := List.mem_iff_getElem?.1 hz
    rw [List.getElem?_take] at hi
    split at hi
    · exact h i z (by assumption) hi
    · cases hi) hy
  rw [← hsp] at h1
  refine ⟨h1.1.trans ?_, h1.2⟩
  rw [List.set_eq_take_append_cons_drop, if_pos hlt]
theorem updF_len (s : ByteArray) (f : Fl → Fl) : ∀ P : List Fl, (updF s f P).length = P.length
  | [] => rfl
  | y :: P => by
    simp only [updF]
    split
    · rfl
    · simp only [List.length_cons, updF_len s f P]
section
variable {D : DataW Unit} {P : List Fl}
theorem SameF.split (h : SameF D P) {s : ByteArray} (hh : hasS D s = true) : ∃ L R, P = L ++ (⟨s, (fileAt D s).1, (fileAt D s).2⟩ : Fl) :: R ∧ (∀ z ∈ L, z.name ≠ s) := by
  obtain ⟨L, R, e⟩ := List.append_of_mem (h.there hh)
  refine ⟨L, R, e, fun z hz => ?_⟩
  have h1 := h.strict
  rw [e] at h1
  exact (strict_mid h1).2 z (by simp [hz])
theorem SameF.upd (h : SameF D P) {s : ByteArray} (hh : hasS D s = true) {f : Fl → Fl} (hf : (f ⟨s, (fileAt D s).1, (fileAt D s).2⟩).name = s) (h0 : 0 ≤ (f ⟨s, (fileAt D s).1, (fileAt D s).2⟩).safe) (h1 : (f ⟨s, (fileAt D s).1, (fileAt D s).2⟩).safe ≤ ((f ⟨s, (fileAt D s).1, (fileAt D s).2⟩).data.size : Int)) :
    SameF (putF D s (f ⟨s, (fileAt D s).1, (fileAt D s).2⟩).data (f ⟨s, (fileAt D s).1, (fileAt D s).2⟩).safe) (updF s f P) := by
  obtain ⟨L, R, e, hL⟩ := h.split hh
  have h2 := (updF_mid s f (L := L) (R := R) (y := ⟨s, (fileAt D s).1, (fileAt D s).2⟩) hL rfl).1
  obtain ⟨z, hz⟩ : ∃ z, f ⟨s, (fileAt D s).1, (fileAt D s).2⟩ = z := ⟨_, rfl⟩
  rw [hz] at h2 hf h0 h1 ⊢
  rw [e, h2]
  rw [e] at h
  have h3 := h.repl (d := z.data) (n := z.safe) h0 h1
  have h4 : (⟨s, z.data, z.safe⟩ : Fl) = z := by cases z; cases hf; rfl
  dsimp only at h3
  rwa [h4] at h3
theorem SameF.del (h : SameF D P) {s : ByteArray} (hh : hasS D s = true) : SameF (delF D s) (cutF s P) := by
  obtain ⟨L, R, e, hL⟩ := h.split hh
  have h2 := (updF_mid s id (L := L) (R := R) (y := ⟨s, (fileAt D s).1, (fileAt D s).2⟩) hL rfl).2
  rw [e, h2]
  rw [e] at h
  exact h.cut
theorem of_takeWhileF {β : Type} {p : β → Bool} : ∀ {P : List β} {y : β}, y ∈ P.takeWhile p → p y = true
  | [], _, h => by cases h
  | z :: P, y, h => by
    rw [List.takeWhile_cons] at h
    by_cases hz : p z = true
    · rw [if_pos hz] at h
      rcases List.mem_cons.1 h with rfl | h
      · exact hz
      · exact of_takeWhileF h
    · rw [if_neg hz] at h
      cases h
theorem nameF_of {a b : ByteArray} (h : a.data.toList = b.data.toList) : a = b := by
  cases a; cases b
  exact congrArg ByteArray.mk (Array.toList_inj.1 h)
theorem strict_insF {P : List Fl} {x : Fl} (h : StrictF P) (hne : ∀ y ∈ P, y.name ≠ x.name) : StrictF (P.takeWhile (ltK x.name) ++ x :: P.dropWhile (ltK x.name)) := by
  have hsp : P = P.takeWhile (ltK x.name) ++ P.dropWhile (ltK x.name) := (List.takeWhile_append_dropWhile ..).symm
  have hlt : ∀ y ∈ P.takeWhile (ltK x.name), y.name.data.toList < x.name.data.toList := fun y hy => by
    have h9 := of_takeWhileF hy
    unfold ltK at h9
    exact of_decide_eq_true h9
  have hd0 : StrictF (P.dropWhile (ltK x.name)) := List.Pairwise.sublist (List.dropWhile_sublist _) h
  have hgt : ∀ y ∈ P.dropWhile (ltK x.name), x.name.data.toList < y.name.data.toList := by
    intro y hy
    cases hd : P.dropWhile (ltK x.name) with
    | nil => rw [hd] at hy; cases hy
    | cons z Q =>
      have hz : ltK x.name z = false := by
        have := List.head?_dropWhile_not (ltK x.name) P
        rw [hd] at this
        simpa using this
      have hz2 : x.name.data.toList < z.name.data.toList := by
        unfold ltK at hz
        have h1 := List.not_lt.1 (of_decide_eq_false hz)
        rcases List.le_iff_lt_or_eq.1 h1 with h2 | h2
        · exact h2
        · exact absurd (nameF_of h2).symm (hne z (by rw [hsp, hd]; simp))
      rw [hd] at hy hd0
      rcases List.mem_cons.1 hy with rfl | hy
      · exact hz2
      · exact List.lt_trans hz2 ((List.pairwise_cons.1 hd0).1 y hy)
  unfold StrictF at h hd0 ⊢
  rw [List.pairwise_append]
  refine ⟨h.sublist (List.takeWhile_sublist _), List.pairwise_cons.2 ⟨hgt, hd0⟩, fun a ha b hb => ?_⟩
  rcases List.mem_cons.1 hb with rfl | hb
  · exact hlt a ha
  · exact List.lt_trans (hlt a ha) (hgt b hb)
theorem insK_mid (P : List Fl) (x : Fl) : insK P x = P.takeWhile (ltK x.name) ++ x :: P.dropWhile (ltK x.name) := by
  show P.takeWhile (ltK x.name) ++ [x] ++ P.dropWhile (ltK x.name) = _
  rw [List.append_assoc]; rfl
theorem SameF.put (h : SameF D P) {x : Fl} (hn : hasS D x.name = false) (h0 : 0 ≤ x.safe) (h1 : x.safe ≤ (x.data.size : Int)) : SameF (putF D x.name x.data x.safe) (insK P x) := by
  rw [insK_mid]
  have hsp : P = P.takeWhile (ltK x.name) ++ P.dropWhile (ltK x.name) := (List.takeWhile_append_dropWhile ..).symm
  have h2 := strict_insF h.strict (x := x) (fun y hy e => by
    have := ((h.mem y).1 hy).1
    rw [e, hn] at this
    cases this)
  rw [hsp] at h
  exact h.ins h2 hn h0 h1
/-- Two maps with the same files go with the same lists. -/
theorem SameF.as {D' : DataW Unit} (h : SameF D P) (hg : GoodF D') (hh : ∀ s, hasS D' s = hasS D s) (hf : ∀ s, hasS D s = true → fileAt D' s = fileAt D s) (hz : Maps.size D' = Maps.size D) (ht : totF D' = totF D) : SameF D' P :=
  ⟨hg, h.strict, fun y => by
    rw [h.mem y, hh]
    constructor
    · rintro ⟨a, b⟩; exact ⟨a, by rw [hf _ a]; exact b⟩
    · rintro ⟨a, b⟩; exact ⟨a, by rw [← hf _ a]; exact b⟩, by rw [hz]; exact h.size, by rw [ht]; exact h.tot⟩
end
end Go.Proofs.YtfmbadinfhpihaaGreat
namespace Go.Proofs.YtfmbadinfhpihaaGreat
open Go.RowKit Go.Maps Go.Sort
set_option maxRecDepth 100000

/-- The document's disk. -/
structure D5 where
  on : Bool
  l : List Fl
  ops : Int
  fuse : Int
def upI (o : Int) : Int := if o < 4611686018427387904 then o + 1 else o
/-- An operation begins. -/
def op5 (r : D5) : D5 := if r.on = true then (if r.fuse = 0 then ⟨false, r.l, upI r.ops, -1⟩ else ⟨true, r.l, upI r.ops, if 0 < r.fuse then r.fuse - 1 else r.fuse⟩) else r
def stays5 (r : D5) : Bool := r.on && !decide (r.fuse = 0)
def D5.with (r : D5) (l : List Fl) : D5 := ⟨r.on, l, r.ops, r.fuse⟩
def tot5 (l : List Fl) : Nat := (l.map (·.data.size)).sum
def create5 (r : D5) (s : ByteArray) : Int × D5 :=
  if stays5 r = true then
    (if validB s = true then (if (findK r.l s).isSome = true then (8, op5 r) else if 40 ≤ r.l.length then (10, op5 r) else (0, (op5 r).with (insK r.l ⟨s, ⟨#[]⟩, 0⟩))) else (9, op5 r))
  else (14, op5 r)
def appW5 (r : D5) (s x : ByteArray) : Int := if (findK r.l s).isSome = true then (if 400000 < tot5 r.l + x.size then 10 else 0) else 7
def addF (x : ByteArray) (y : Fl) : Fl := ⟨y.name, y.data ++ x, y.safe⟩
def syncF (y : Fl) : Fl := ⟨y.name, y.data, (y.data.size : Nat)⟩
def append5 (r : D5) (s x : ByteArray) : Int × D5 :=
  if r.on = true then (if stays5 r = true then appW5 r s x else 14, if appW5 r s x = 0 then (op5 r).with (updF s (addF x) r.l) else op5 r) else (14, r)
def sync5 (r : D5) (s : ByteArray) : Int × D5 :=
  if stays5 r = true then (if (findK r.l s).isSome = true then (0, (op5 r).with (updF s syncF r.l)) else (7, op5 r)) else (14, op5 r)
def remove5 (r : D5) (s : ByteArray) : Int × D5 :=
  if stays5 r = true then (if (findK r.l s).isSome = true then (0, (op5 r).with (cutF s r.l)) else (7, op5 r)) else (14, op5 r)
/-- The list behind a Rename. -/
def moved (l : List Fl) (y : Fl) (t : ByteArray) : List Fl := insK (if (findK (cutF y.name l) t).isSome = true then cutF t (cutF y.name l) else cutF y.name l) ⟨t, y.data, y.safe⟩
def rename5 (r : D5) (s t : ByteArray) : Int × D5 :=
  if stays5 r = true then
    (match findK r.l s with
    | none => (7, op5 r)
    | some y => if validB t = true then (if s = t then (0, op5 r) else (0, (op5 r).with (moved r.l y t))) else (9, op5 r))
  else (14, op5 r)
def read5 (r : D5) (s : ByteArray) : ByteArray × Int := if r.on = true then (match findK r.l s with | some y => (y.data, 0) | none => (⟨#[]⟩, 7)) else (⟨#[]⟩, 14)
def cut5 (keep : List Int) (i : Nat) (y : Fl) : Fl := ⟨y.name, cutOf keep i (y.data, y.safe), ((cutOf keep i (y.data, y.safe)).size : Nat)⟩
def crash5 (r : D5) (keep : List Int) : D5 := ⟨false, r.l.mapIdx (cut5 keep), r.ops, -1⟩
def fuse5 (r : D5) (n : Int) : D5 := ⟨r.on, r.l, r.ops, max n (-1)⟩
def restore5 (r : D5) : D5 := ⟨true, r.l, r.ops, r.fuse⟩
def new5 : D5 := ⟨true, [], 0, -1⟩

/-- The program's disk and the document's are the same. -/
structure Agree5 (st : Dk) (r : D5) : Prop where
  ok : st.Ok
  on : r.on = st.on
  ops : r.ops = st.ops
  fuse : r.fuse = if st.fused = true then st.left else -1
  left : st.fused = true → 0 ≤ st.left
  fs : SameF st.fs r.l
  few : Maps.size st.fs ≤ 40
  tot : totF st.fs ≤ 400000
  nm : ∀ s, hasS st.fs s = true → s.size ≤ 40
theorem agree5_new : Agree5 newDk new5 := ⟨newDk_ok, rfl, rfl, rfl, (fun h => by cases h), sameF_none, by decide, by decide, fun s h => by
  have h9 : hasS (.map []) s = true := h
  simp [hasS, Maps.has] at h9⟩
section
variable {st : Dk} {r : D5}
theorem Agree5.len (h : Agree5 st r) : r.l.length ≤ 40 := by rw [h.fs.size]; exact h.few
theorem Agree5.tot5 (h : Agree5 st r) : tot5 r.l = totF st.fs := h.fs.tot
theorem upI_eq {o : Int} (h1 : o ≤ 4611686018427387904) : upI o = min (o + 1) 4611686018427387904 := by unfold upI; split <;> omega
theorem Agree5.op (h : Agree5 st r) (hon : st.on = true) : Agree5 (opD st).1 (op5 r) ∧ (opD st).2 = !stays5 r := by
  have hok := opD_ok h.ok
  have hr : r.on = true := h.on.trans hon
  have hu := upI_eq h.ok.ops1
  have hf := h.fuse
  have hl := h.left
  obtain ⟨on, fused, left, ops, fs⟩ := st
  obtain ⟨ron, l, rops, rfuse⟩ := r
  have ho : rops = ops := h.ops
  dsimp only at hon hr hf hl hu
  subst hon hr ho
  unfold opD op5 stays5 at *
  cases fused
  · simp only [Bool.false_eq_true, if_false] at hf hok ⊢
    subst hf
    simp only [if_true]
    rw [if_neg (by decide), if_neg (by decide), hu]
    exact ⟨⟨hok, rfl, rfl, rfl, (fun e => by cases e), h.fs, h.few, h.tot, h.nm⟩, rfl⟩
  · simp only [if_true] at hf hok ⊢
    subst hf
    have h0 := hl rfl
    by_cases hp : 0 < rfuse
    · have hne : ¬ rfuse = 0 := by omega
      rw [if_pos hp] at hok ⊢
      rw [if_neg hne, if_pos hp, hu]
      exact ⟨⟨hok, rfl, rfl, rfl, fun _ => by show 0 ≤ rfuse - 1; omega, h.fs, h.few, h.tot, h.nm⟩, by simp [hne]⟩
    · have he : rfuse = 0 := by omega
      subst he
      rw [if_neg hp] at hok ⊢
      rw [if_pos rfl, hu]
      exact ⟨⟨hok, rfl, rfl, rfl, (fun e => by cases e), h.fs, h.few, h.tot, h.nm⟩, rfl⟩
theorem op5_off (hr : r.on = false) : op5 r = r := by unfold op5; rw [if_neg (by rw [hr]; decide)]
theorem stays5_off (hr : r.on = false) : stays5 r = false := by unfold stays5; rw [hr]; rfl
theorem op5_l (r : D5) : (op5 r).l = r.l := by unfold op5; split <;> (try split) <;> rfl
theorem opD_fs' (st : Dk) : (opD st).1.fs = st.fs := opD_fs st
theorem Agree5.with {fs : DataW Unit} {l : List Fl} (h : Agree5 st r) (hs : SameF fs l) (hz : Maps.size fs ≤ 40) (ht : totF fs ≤ 400000) (hn : ∀ s, hasS fs s = true → s.size ≤ 40) : Agree5 (st.with fs) (r.with l) :=
  ⟨⟨hs.good, h.ok.ops0, h.ok.ops1, h.ok.left0, h.ok.left1, by show Maps.size fs ≤ _; omega, by show totF fs ≤ _; omega⟩, h.on, h.ops, h.fuse, h.left, hs, hz, ht, hn⟩
theorem nm_put {D : DataW Unit} (hg : GoodF D) {s x : ByteArray} {n : Int} (h : ∀ a, hasS D a = true → a.size ≤ 40) (hs : s.size ≤ 40) : ∀ a, hasS (putF D s x n) a = true → a.size ≤ 40 := fun a ha => by
  rcases (hasF_put hg _ _ _ _).1 ha with rfl | h1
  · exact hs
  · exact h a h1
theorem nm_del {D : DataW Unit} {s : ByteArray} (h : ∀ a, hasS D a = true → a.size ≤ 40) : ∀ a, hasS (delF D s) a = true → a.size ≤ 40 := fun a ha => h a ((hasF_del _ _).1 ha).2
theorem validB_le {s : ByteArray} (h : validB s = true) : s.size ≤ 40 := (of_decide_eq_true h).2
/-- An operation that is done, if the power stays. -/
theorem Agree5.does (h : Agree5 st r) (W : Dk → Int) (K : Dk → Dk) (o : Int × D5)
    (hoff : stays5 r = false → o = (14, op5 r))
    (hdo : stays5 r = true → Agree5 (opD st).1 (op5 r) → (opD st).1.fs = st.fs → o.1 = W (opD st).1 ∧ Agree5 (if W (opD st).1 = 0 then K (opD st).1 else (opD st).1) o.2) :
    o.1 = (doD st W K).1 ∧ Agree5 (doD st W K).2 o.2 := by
  unfold doD
  by_cases hon : st.on = true
  · rw [if_pos hon]
    obtain ⟨h1, h2⟩ := h.op hon
    by_cases hs : stays5 r = true
    · rw [hs] at h2
      rw [if_neg (by rw [h2]; decide)]
      obtain ⟨h3, h4⟩ := hdo hs h1 (opD_fs st)
      by_cases hw : W (opD st).1 = 0
      · rw [if_pos hw] at h4 ⊢
        exact ⟨h3.trans hw, h4⟩
      · rw [if_neg hw] at h4 ⊢
        exact ⟨h3, h4⟩
    · have hs' : stays5 r = false := by simpa using hs
      rw [hs'] at h2
      rw [if_pos (by rw [h2]; rfl), hoff hs']
      exact ⟨rfl, h1⟩
  · have hr : r.on = false := by rw [h.on]; simpa using hon
    rw [if_neg hon, hoff (stays5_off hr), op5_off hr]
    exact ⟨rfl, h⟩
theorem Agree5.create (h : Agree5 st r) (s : ByteArray) : (create5 r s).1 = (createD st s).1 ∧ Agree5 (createD st s).2 (create5 r s).2 := by
  refine h.does _ _ _ (fun hs => by unfold create5; rw [if_neg (by rw [hs]; decide)]) (fun hs ha hfs => ?_)
  unfold create5 createW
  rw [if_pos hs, hfs, h.fs.some s, h.fs.size]
  by_cases hv : validB s = true
  · rw [if_pos hv, if_pos hv]
    by_cases hh : hasS st.fs s = true
    · rw [if_pos hh, if_pos hh]
      exact ⟨rfl, ha⟩
    · rw [if_neg hh, if_neg hh]
      by_cases hz : 40 ≤ Maps.size st.fs
      · rw [if_pos hz, if_pos hz]
        exact ⟨rfl, ha⟩
      · rw [if_neg hz, if_neg hz]
        have hn : hasS st.fs s = false := by simpa using hh
        have h1 := h.fs.put (x := ⟨s, ⟨#[]⟩, 0⟩) hn (Int.le_refl _) (Int.le_refl _)
        refine ⟨rfl, ?_⟩
        show Agree5 ((opD st).1.with _) ((op5 r).with _)
        refine ha.with h1 ?_ ?_ (nm_put h.fs.good h.nm (validB_le hv))
        · rw [sizeF_put h.fs.good, if_neg hh]; omega
        · have := totF_put_le h.fs.good s ⟨#[]⟩ 0
          have h2 := h.tot
          have h3 : (⟨#[]⟩ : ByteArray).size = 0 := rfl
          show totF (putF st.fs s ⟨#[]⟩ 0) ≤ _
          omega
  · rw [if_neg hv, if_neg hv]
    exact ⟨rfl, ha⟩
theorem Agree5.sync (h : Agree5 st r) (s : ByteArray) : (sync5 r s).1 = (syncD st s).1 ∧ Agree5 (syncD st s).2 (sync5 r s).2 := by
  refine h.does _ _ _ (fun hs => by unfold sync5; rw [if_neg (by rw [hs]; decide)]) (fun hs ha hfs => ?_)
  unfold sync5 lacksD
  rw [if_pos hs, hfs, h.fs.some s]
  by_cases hh : hasS st.fs s = true
  · rw [if_pos hh, if_pos hh]
    have h1 := h.fs.upd hh (f := syncF) rfl (by show (0 : Int) ≤ ((fileAt st.fs s).1.size : Nat); omega) (Int.le_refl _)
    refine ⟨rfl, ?_⟩
    show Agree5 ((opD st).1.with _) ((op5 r).with _)
    refine ha.with h1 ?_ ?_ (nm_put h.fs.good h.nm (h.nm s hh))
    · rw [sizeF_put h.fs.good, if_pos hh]; exact h.few
    · have h2 := totF_put h.fs.good s (fileAt st.fs s).1 ((fileAt st.fs s).1.size : Nat)
      have h3 := totF_del h.fs.good s
      have h4 := h.tot
      show totF (putF st.fs s (fileAt st.fs s).1 _) ≤ _
      rw [h2]
      omega
  · rw [if_neg hh, if_neg hh]
    exact ⟨rfl, ha⟩
theorem Agree5.remove (h : Agree5 st r) (s : ByteArray) : (remove5 r s).1 = (removeD st s).1 ∧ Agree5 (removeD st s).2 (remove5 r s).2 := by
  refine h.does _ _ _ (fun hs => by unfold remove5; rw [if_neg (by rw [hs]; decide)]) (fun hs ha hfs => ?_)
  unfold remove5 lacksD
  rw [if_pos hs, hfs, h.fs.some s]
  by_cases hh : hasS st.fs s = true
  · rw [if_pos hh, if_pos hh]
    refine ⟨rfl, ?_⟩
    show Agree5 ((opD st).1.with _) ((op5 r).with _)
    refine ha.with (h.fs.del hh) ?_ ?_ (nm_del h.nm)
    · have := sizeF_del h.fs.good s
      have h2 := h.few
      rw [if_pos hh] at this
      omega
    · have := totF_del_le h.fs.good s
      have h2 := h.tot
      omega
  · rw [if_neg hh, if_neg hh]
    exact ⟨rfl, ha⟩
theorem Agree5.append (h : Agree5 st r) (s x : ByteArray) : (append5 r s x).1 = (appendD st s x).1 ∧ Agree5 (appendD st s x).2 (append5 r s x).2 := by
  unfold append5 appendD
  by_cases hon : st.on = true
  · have hr : r.on = true := h.on.trans hon
    rw [if_pos hon, if_pos hr]
    obtain ⟨ha, h2⟩ := h.op hon
    have hfs := opD_fs st
    have hw : appW5 r s x = appendW (opD st).1 s x := by
      unfold appW5 appendW
      rw [h.fs.some s, h.tot5, hfs]
    refine ⟨?_, ?_⟩
    · show (if stays5 r = true then appW5 r s x else 14) = if (opD st).2 = true then 14 else appendW (opD st).1 s x
      rw [h2, hw]
      cases stays5 r <;> rfl
    · show Agree5 (if appendW (opD st).1 s x = 0 then putsD (opD st).1 s x else (opD st).1) (if appW5 r s x = 0 then (op5 r).with (updF s (addF x) r.l) else op5 r)
      rw [hw]
      by_cases h0 : appendW (opD st).1 s x = 0
      · rw [if_pos h0, if_pos h0]
        unfold appendW at h0
        rw [hfs] at h0
        by_cases hh : hasS st.fs s = true
        · rw [if_pos hh] at h0
          have hle : ¬ 400000 < totF st.fs + x.size := fun hc => by rw [if_pos hc] at h0; cases h0
          obtain ⟨_, g1, g2⟩ := fileAt_form h.fs.good s
          have hsz : ((fileAt st.fs s).1 ++ x).size = (fileAt st.fs s).1.size + x.size := ByteArray.size_append
          have h1 := h.fs.upd hh (f := addF x) rfl g1 (by show (fileAt st.fs s).2 ≤ (((fileAt st.fs s).1 ++ x).size : Nat); rw [hsz]; omega)
          unfold putsD
          rw [hfs]
          refine ha.with h1 ?_ ?_ (nm_put h.fs.good h.nm (h.nm s hh))
          · rw [sizeF_put h.fs.good, if_pos hh]; exact h.few
          · have h2 := totF_put h.fs.good s ((fileAt st.fs s).1 ++ x) (fileAt st.fs s).2
            have h3 := totF_del h.fs.good s
            show totF (putF st.fs s ((fileAt st.fs s).1 ++ x) (fileAt st.fs s).2) ≤ _
            rw [h2, hsz]
            omega
        · rw [if_neg hh] at h0
          cases h0
      · rw [if_neg h0, if_neg h0]
        exact ha
  · have hr : r.on = false := by rw [h.on]; simpa using hon
    rw [if_neg hon, if_neg (by rw [hr]; decide)]
    exact ⟨rfl, h⟩
theorem Agree5.read (h : Agree5 st r) (s : ByteArray) : read5 r s = readD st s := by
  unfold read5 readD
  rw [h.on, h.fs.find s]
  by_cases hon : st.on = true
  · rw [if_pos hon, if_pos hon]
    unfold lacksD
    by_cases hh : hasS st.fs s = true
    · rw [if_pos hh, if_pos hh]
    · rw [if_neg hh, if_neg hh, fileAt_none (by simpa using hh)]
  · rw [if_neg hon, if_neg hon]
theorem Agree5.fuse_ (h : Agree5 st r) {n : Int} (h0 : -9223372036854775808 ≤ n) (h1 : n ≤ 9223372036854775807) : Agree5 (fuseD st n) (fuse5 r n) := by
  refine ⟨⟨h.ok.good, h.ok.ops0, h.ok.ops1, h0, h1, h.ok.few, h.ok.tot⟩, h.on, h.ops, ?_, fun e => of_decide_eq_true e, h.fs, h.few, h.tot, h.nm⟩
  show max n (-1) = if decide (0 ≤ n) = true then n else -1
  by_cases hn : 0 ≤ n
  · rw [if_pos (decide_eq_true hn)]; omega
  · rw [if_neg (by rw [decide_eq_false hn]; decide)]; omega
theorem Agree5.restore (h : Agree5 st r) : Agree5 (restoreD st) (restore5 r) :=
  ⟨⟨h.ok.good, h.ok.ops0, h.ok.ops1, h.ok.left0, h.ok.left1, h.ok.few, h.ok.tot⟩, rfl, h.ops, h.fuse, h.left, h.fs, h.few, h.tot, h.nm⟩
theorem put_as {D : DataW Unit} (h : GoodF D) {s x : ByteArray} {n : Int} (hx : fileAt D s = (x, n)) (hh : hasS D s = true) (g1 : 0 ≤ n) (g2 : n ≤ (x.size : Int)) : (∀ t, hasS (putF (delF D s) s x n) t = hasS D t) ∧ (∀ t, fileAt (putF (delF D s) s x n) t = fileAt D t) ∧ Maps.size (putF (delF D s) s x n) = Maps.size D ∧ totF (putF (delF D s) s x n) = totF D ∧ GoodF (putF (delF D s) s x n) := by
  have hd := h.del s
  have hn : hasS (delF D s) s = false := by
    cases e : hasS (delF D s) s
    · rfl
    · exact absurd rfl ((hasF_del s s).1 e).1
  refine ⟨fun t => ?_, fun t => ?_, ?_, ?_, hd.put _ _ g1 g2⟩
  · by_cases e : t = s
    · subst e
      rw [hh]
      exact (hasF_put hd _ _ _ _).2 (.inl rfl)
    · rw [Bool.eq_iff_iff, hasF_put hd, hasF_del]
      simp [e]
  · by_cases e : t = s
    · subst e
      rw [fileAt_put_same hd, hx]
    · rw [fileAt_put_other e, fileAt_del_other e]
  · have h2 := sizeF_del h s
    rw [if_pos hh] at h2
    rw [sizeF_put hd, if_neg (by rw [hn]; decide)]
    exact h2
  · have h2 := totF_del h s
    have h3 := totF_put hd s x n
    have h4 := totF_del hd s
    rw [fileAt_none hn] at h4
    rw [hx] at h2
    have h5 : (⟨#[]⟩ : ByteArray).size = 0 := rfl
    dsimp only at h2 h4
    omega
/-- A file under another name. -/
theorem SameF.moved {D : DataW Unit} {P : List Fl} (h : SameF D P) {s t : ByteArray} (hh : hasS D s = true) (hst : s ≠ t) : SameF (putF (delF D s) t (fileAt D s).1 (fileAt D s).2) (moved P ⟨s, (fileAt D s).1, (fileAt D s).2⟩ t) := by
  obtain ⟨_, g1, g2⟩ := fileAt_form h.good s
  have hd := h.del hh
  unfold Go.Proofs.YtfmbadinfhpihaaGreat.moved
  dsimp only
  rw [hd.some t]
  by_cases ht : hasS (delF D s) t = true
  · rw [if_pos ht]
    have hd2 := hd.del ht
    have hn : hasS (delF (delF D s) t) t = false := by
      cases e : hasS (delF (delF D s) t) t
      · rfl
      · exact absurd rfl ((hasF_del _ _).1 e).1
    have h1 := hd2.put (x := ⟨t, (fileAt D s).1, (fileAt D s).2⟩) hn g1 g2
    refine h1.as (hd.good.put _ _ g1 g2) (fun a => ?_) (fun a _ => ?_) ?_ ?_
    · show hasS (putF (delF D s) t _ _) a = hasS (putF (delF (delF D s) t) t _ _) a
      rw [Bool.eq_iff_iff, hasF_put hd.good, hasF_put hd2.good, hasF_del t a]
      by_cases e : a = t <;> simp [e]
    · show fileAt (putF (delF D s) t _ _) a = fileAt (putF (delF (delF D s) t) t _ _) a
      by_cases e : a = t
      · subst e
        rw [fileAt_put_same hd.good, fileAt_put_same hd2.good]
      · rw [fileAt_put_other e, fileAt_put_other e, fileAt_del_other e]
    · show Maps.size (putF (delF D s) t _ _) = Maps.size (putF (delF (delF D s) t) t _ _)
      have h2 := sizeF_del hd.good t
      rw [if_pos ht] at h2
      rw [sizeF_put hd.good, sizeF_put hd2.good, if_pos ht, if_neg (by rw [hn]; decide)]
      exact h2.symm
    · show totF (putF (delF D s) t (fileAt D s).1 (fileAt D s).2) = totF (putF (delF (delF D s) t) t (fileAt D s).1 (fileAt D s).2)
      have h2 := totF_put hd.good t (fileAt D s).1 (fileAt D s).2
      have h3 := totF_put hd2.good t (fileAt D s).1 (fileAt D s).2
      have h4 := totF_del hd2.good t
      rw [fileAt_none hn] at h4
      have h5 : (⟨#[]⟩ : ByteArray).size = 0 := rfl
      dsimp only at h4
      omega
  · rw [if_neg ht]
    exact hd.put (x := ⟨t, (fileAt D s).1, (fileAt D s).2⟩) (by simpa using ht) g1 g2
theorem Agree5.rename (h : Agree5 st r) (s t : ByteArray) : (rename5 r s t).1 = (renameD st s t).1 ∧ Agree5 (renameD st s t).2 (rename5 r s t).2 := by
  refine h.does _ _ _ (fun hs => by unfold rename5; rw [if_neg (by rw [hs]; decide)]) (fun hs ha hfs => ?_)
  unfold rename5 renameW
  rw [if_pos hs, hfs, h.fs.find s]
  by_cases hh : hasS st.fs s = true
  · rw [if_pos hh, if_pos hh]
    dsimp only
    by_cases hv : validB t = true
    · rw [if_pos hv, if_pos hv, if_pos rfl]
      obtain ⟨_, g1, g2⟩ := fileAt_form h.fs.good s
      obtain ⟨p1, p2, p3, p4, p5⟩ := put_as h.fs.good (s := s) (x := (fileAt st.fs s).1) (n := (fileAt st.fs s).2) rfl hh g1 g2
      by_cases e : s = t
      · subst e
        rw [if_pos rfl]
        refine ⟨rfl, ?_⟩
        have h2 : op5 r = (op5 r).with r.l := by
          have := op5_l r
          unfold D5.with
          cases hq : op5 r
          rw [hq] at this
          rw [← this]
        show Agree5 ((opD st).1.with _) (op5 r)
        rw [h2]
        exact ha.with (h.fs.as p5 p1 (fun a _ => p2 a) p3 p4) (by rw [p3]; exact h.few) (by rw [p4]; exact h.tot) (fun a ha' => h.nm a (by rw [← p1 a]; exact ha'))
      · rw [if_neg e]
        refine ⟨rfl, ?_⟩
        have hm := h.fs.moved hh e
        refine ha.with hm ?_ ?_ (nm_put (h.fs.good.del s) (nm_del h.nm) (validB_le hv))
        · have h2 := sizeF_del h.fs.good s
          rw [if_pos hh] at h2
          have h3 := h.few
          rw [sizeF_put (h.fs.good.del s)]
          split <;> omega
        · have h2 := totF_del h.fs.good s
          have h3 := totF_put_le (h.fs.good.del s) t (fileAt st.fs s).1 (fileAt st.fs s).2
          have h4 := h.tot
          omega
    · rw [if_neg hv, if_neg hv]
      exact ⟨rfl, by rw [if_neg (by decide)]; exact ha⟩
  · rw [if_neg hh, if_neg hh]
    exact ⟨rfl, by rw [if_neg (by decide)]; exact ha⟩
/-- The list of which the first files are cut. -/
theorem SameF.crashes {D : DataW Unit} {P : List Fl} (h : SameF D P) (keep : List Int) : ∀ i, i ≤ P.length → SameF (crashF keep (lstS D) D i) ((P.take i).mapIdx (cut5 keep) ++ P.drop i) := by
  intro i
  induction i with
  | zero => intro _; exact h
  | succ i ih =>
    intro hi
    have h1 := ih (by omega)
    have hlt : i < P.length := by omega
    have hd : P.drop i = P[i] :: P.drop (i + 1) := List.drop_eq_getElem_cons hlt
    have hn : (lstS D)[i]? = Option.some P[i].name := by
      rw [← h.names, List.getElem?_map, List.getElem?_eq_getElem hlt]
      rfl
    obtain ⟨y, hy⟩ : ∃ y, P[i] = y := ⟨_, rfl⟩
    rw [hy] at hd hn
    have ht : P.take (i + 1) = P.take i ++ [y] := by rw [List.take_add_one, List.getElem?_eq_getElem hlt, hy]; rfl
    rw [hd] at h1
    rw [crashF_step hn]
    have hm := ((h1.mem y).1 (by simp)).2
    rw [hm]
    have hm2 : (List.take (i + 1) P).mapIdx (cut5 keep) = (P.take i).mapIdx (cut5 keep) ++ [cut5 keep i y] := by
      rw [ht, List.mapIdx_append, List.mapIdx_cons, List.mapIdx_nil, List.length_take, Nat.min_eq_left (by omega), Nat.zero_add]
    rw [hm2, List.append_assoc]
    exact h1.repl (by omega) (Int.le_refl _)
theorem Agree5.crash (h : Agree5 st r) (keep : List Int) : Agree5 (crashD st keep) (crash5 r keep) := by
  have hok := crashD_ok h.ok keep
  have h1 := h.fs.crashes keep r.l.length (Nat.le_refl _)
  rw [List.take_length, List.drop_length, List.append_nil] at h1
  have hl : (lstS st.fs).length = r.l.length := by rw [← h.fs.names, List.length_map]
  obtain ⟨_, hc2, h3, h4⟩ := crash_ok (keep := keep) h.ok.good (l := lstS st.fs) (fun s hs => (mem_lstS h.ok.good.keys s).1 hs) (lstS st.fs).length
  refine ⟨hok, rfl, h.ops, rfl, (fun e => by cases e), ?_, ?_, ?_, fun s hs => h.nm s ((hc2 s).1 hs)⟩
  · show SameF (crashF _ _ _ _) _
    rw [hl]
    exact h1
  · show Maps.size (crashF _ _ _ _) ≤ _
    rw [h3]
    exact h.few
  · show totF (crashF _ _ _ _) ≤ _
    have := h.tot
    omega
end
end Go.Proofs.YtfmbadinfhpihaaGreat
