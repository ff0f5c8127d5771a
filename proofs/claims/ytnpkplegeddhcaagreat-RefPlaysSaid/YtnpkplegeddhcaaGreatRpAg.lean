/-
 The program's data and the document's data have the same records, in plain words; and still do behind each call.
 Conditions: none beyond each lemma's own premises.
-/
import Derived.Test.YtnpkplegeddhcaaGreatClone
import Derived.Test.YtnpkplegeddhcaaGreatR8a
import Derived.Maps.OwnRows
import Derived.Test.YtnpkplegeddhcaaGreatRpSt
import Derived.Test.YtnpkplegeddhcaaGreatSameI
namespace Go.Proofs.YtnpkplegeddhcaaGreat
open Go.RowKit Go.Maps Go.Sort

def srt (l : List ByteArray) : List ByteArray := lstS (setS l)
theorem mem_srt (l : List ByteArray) (s : ByteArray) : s ∈ srt l ↔ s ∈ l := by unfold srt; rw [mem_lstS (goodS_set l), hasS_set]
theorem srt_ext {a b : List ByteArray} (h : ∀ s, s ∈ a ↔ s ∈ b) : srt a = srt b := lstS_ext (goodS_set a) (goodS_set b) fun s => by rw [hasS_set, hasS_set, h]
theorem strKeys_nodup {D : DataW Unit} (h : GoodS D) : (strKeys D).Nodup := by
 obtain ⟨ht, es, rfl, hk⟩ := h
 obtain ⟨_, e1, hp⟩ := ht
 injection e1 with e1
 subst e1
 show (es.map fun p => strOf p.1).Nodup
 refine List.pairwise_map.2 (hp.imp_of_mem fun {p q} hp' hq' hne e => hne ?_)
 obtain ⟨a, ha⟩ := hk p hp'
 obtain ⟨b, hb⟩ := hk q hq'
 rw [ha, hb] at e ⊢
 exact congrArg _ e
def StrictS (l : List ByteArray) : Prop := l.Pairwise fun a b => a.data.toList < b.data.toList
theorem mem_keys (l : List ByteArray) (x : List UInt8) : x ∈ strKeys (setS l) ↔ (⟨x.toArray⟩ : ByteArray) ∈ l := by
 rw [← mem_srt l]
 unfold srt lstS
 rw [List.mem_map]
 constructor
 ·intro h
  exact ⟨x, List.mem_mergeSort.2 h, rfl⟩
 ·rintro ⟨y, hy, e⟩
  have : y = x := by
   have h := congrArg (fun b : ByteArray => b.data.toList) e
   simpa using h
  subst this
  exact List.mem_mergeSort.1 hy
theorem strict_srt {l : List ByteArray} (h : StrictS l) : srt l = l := by
 have nd : (l.map fun a => a.data.toList).Nodup := List.pairwise_map.2 (h.imp fun hlt e => by rw [e] at hlt; exact absurd hlt (List.lt_irrefl _))
 have hp : (strKeys (setS l)).Perm (l.map fun a => a.data.toList) := (List.perm_ext_iff_of_nodup (strKeys_nodup (goodS_set l)) nd).2 fun x => by
  rw [mem_keys, List.mem_map]
  constructor
  ·intro hx
   exact ⟨_, hx, by simp⟩
  ·rintro ⟨a, ha, rfl⟩
   rw [mk_data]
   exact ha
 have e : (l.map fun a => a.data.toList).mergeSort leB = l.map fun a => a.data.toList := List.mergeSort_of_pairwise (List.pairwise_map.2 (h.imp fun hlt => by
  have := List.le_of_lt hlt
  simpa [leB] using this))
 unfold srt lstS
 rw [mergeSort_of_perm hp, e, List.map_map]
 conv => rhs; rw [← List.map_id l]
 exact List.map_congr_left fun a _ => mk_data a
/-- A list that is strictly sorted and has the texts of another one. -/
theorem srt_is {l o : List ByteArray} (h : StrictS o) (hm : ∀ s, s ∈ o ↔ s ∈ l) : o = srt l := by
 rw [← strict_srt h]
 exact srt_ext hm
theorem strict_lst {D : DataW Unit} (hg : GoodS D) : StrictS (lstS D) := by
 unfold StrictS lstS
 rw [List.pairwise_map]
 have h1 : ((strKeys D).mergeSort leB).Pairwise (fun a b => leB a b = true) := List.pairwise_mergeSort (fun a b c h1 h2 => by
  simp only [leB, decide_eq_true_eq] at *
  exact List.le_trans h1 h2) (fun a b => by
  simp only [leB, Bool.or_eq_true, decide_eq_true_eq]
  exact List.le_total a b) _
 have h2 : ((strKeys D).mergeSort leB).Pairwise (· ≠ ·) := (List.mergeSort_perm _ _).nodup_iff.2 (strKeys_nodup hg)
 refine (h1.and h2).imp ?_
 rintro a b ⟨h, hne⟩
 simp only [leB, decide_eq_true_eq] at h
 show a < b
 rcases List.le_iff_lt_or_eq.1 h with h | h
 ·exact h
 ·exact absurd h hne
end Go.Proofs.YtnpkplegeddhcaaGreat
namespace Go.Proofs.YtnpkplegeddhcaaGreat
open Go.RowKit Go.Maps Go.Sort
set_option maxRecDepth 100000

section
variable {α : Type} [Kd α]
/-- A list whose names rise. -/
def StrictK (P : List α) : Prop := P.Pairwise fun a b => (Kd.key a).data.toList < (Kd.key b).data.toList
theorem strict_nil : StrictK ([] : List α) := List.Pairwise.nil
theorem of_takeWhile {β : Type} {p : β → Bool} : ∀ {P : List β} {y : β}, y ∈ P.takeWhile p → p y = true
 | [], _, h => by cases h
 | z :: P, y, h => by
  rw [List.takeWhile_cons] at h
  by_cases hz : p z = true
  ·rw [if_pos hz] at h
   rcases List.mem_cons.1 h with rfl | h
   ·exact hz
   ·exact of_takeWhile h
  ·rw [if_neg hz] at h
   cases h
theorem strict_ins {P : List α} {x : α} (h : StrictK P) (hn : findK P (Kd.key x) = none) : StrictK (insK P x) := by
 unfold insK StrictK
 have hsp : P = P.takeWhile (ltK (Kd.key x)) ++ P.dropWhile (ltK (Kd.key x)) := (List.takeWhile_append_dropWhile ..).symm
 have hne : ∀ y ∈ P, Kd.key y ≠ Kd.key x := fun y hy e => by
  unfold findK at hn
  rw [List.find?_eq_none] at hn
  exact hn y hy (isK_iff.2 e)
 have hlt : ∀ y ∈ P.takeWhile (ltK (Kd.key x)), (Kd.key y).data.toList < (Kd.key x).data.toList := fun y hy => by
  have := of_takeWhile hy
  unfold ltK at this
  exact of_decide_eq_true this
 have hgt : ∀ y ∈ P.dropWhile (ltK (Kd.key x)), (Kd.key x).data.toList < (Kd.key y).data.toList := by
  intro y hy
  unfold StrictK at h
  cases hd : P.dropWhile (ltK (Kd.key x)) with
  | nil => rw [hd] at hy; cases hy
  | cons z R =>
   have hz : ltK (Kd.key x) z = false := by
    have := List.head?_dropWhile_not (ltK (Kd.key x)) P
    rw [hd] at this
    simpa using this
   have hz2 : (Kd.key x).data.toList < (Kd.key z).data.toList := by
    unfold ltK at hz
    have h1 := List.not_lt.1 (of_decide_eq_false hz)
    rcases List.le_iff_lt_or_eq.1 h1 with h2 | h2
    ·exact h2
    ·exfalso
     refine hne z (by rw [hsp, hd]; simp) ?_
     have e : (Kd.key z).data = (Kd.key x).data := by
      have := congrArg List.toArray h2
      simpa using this.symm
     cases hk : Kd.key z
     cases hk2 : Kd.key x
     rw [hk, hk2] at e
     simp only at e
     rw [e]
   rw [hd] at hy
   rcases List.mem_cons.1 hy with rfl | hy
   ·exact hz2
   ·have h3 : (P.dropWhile (ltK (Kd.key x))).Pairwise fun a b => (Kd.key a).data.toList < (Kd.key b).data.toList := h.sublist (List.dropWhile_sublist _)
    rw [hd] at h3
    exact List.lt_trans hz2 ((List.pairwise_cons.1 h3).1 y hy)
 rw [List.append_assoc, List.pairwise_append]
 refine ⟨h.sublist (List.takeWhile_sublist _), ?_, ?_⟩
 ·rw [List.singleton_append, List.pairwise_cons]
  exact ⟨hgt, h.sublist (List.dropWhile_sublist _)⟩
 ·intro a ha b hb
  rcases List.mem_append.1 hb with hb | hb
  ·obtain rfl : b = x := by simpa using hb
   exact hlt a ha
  ·exact List.lt_trans (hlt a ha) (hgt b hb)
theorem strict_upd {P : List α} (h : StrictK P) {s : ByteArray} {f : α → α} (hf : ∀ y, Kd.key (f y) = Kd.key y) : StrictK (updK s f P) ∧ ∀ z ∈ updK s f P, ∃ y ∈ P, Kd.key z = Kd.key y := by
 induction P with
 | nil => exact ⟨List.Pairwise.nil, fun z hz => by cases hz⟩
 | cons y P ih =>
  obtain ⟨h1, h2⟩ := List.pairwise_cons.1 h
  obtain ⟨i1, i2⟩ := ih h2
  simp only [updK]
  split
  ·refine ⟨List.pairwise_cons.2 ⟨fun z hz => by rw [hf]; exact h1 z hz, h2⟩, fun z hz => ?_⟩
   rcases List.mem_cons.1 hz with rfl | hz
   ·exact ⟨y, by simp, hf y⟩
   ·exact ⟨z, by simp [hz], rfl⟩
  ·refine ⟨List.pairwise_cons.2 ⟨fun z hz => ?_, i1⟩, fun z hz => ?_⟩
   ·obtain ⟨y', hy', e⟩ := i2 z hz
    rw [e]
    exact h1 y' hy'
   ·rcases List.mem_cons.1 hz with rfl | hz
    ·exact ⟨z, by simp, rfl⟩
    ·obtain ⟨y', hy', e⟩ := i2 z hz
     exact ⟨y', by simp [hy'], e⟩
theorem find_upd {P : List α} {s : ByteArray} {f : α → α} (hf : ∀ y, Kd.key (f y) = Kd.key y) (a : ByteArray) : findK (updK s f P) a = if a = s then (findK P s).map f else findK P a := by
 unfold findK
 induction P with
 | nil => simp [updK]
 | cons y P ih =>
  simp only [updK]
  by_cases hy : Kd.key y = s
  ·rw [if_pos hy, List.find?_cons]
   by_cases ha : a = s
   ·subst ha
    rw [if_pos rfl, isK_iff.2 ((hf y).trans hy), List.find?_cons, isK_iff.2 hy]
    rfl
   ·rw [if_neg ha, List.find?_cons, isK_no (by rw [hf, hy]; exact fun e => ha e.symm), isK_no (by rw [hy]; exact fun e => ha e.symm)]
  ·rw [if_neg hy, List.find?_cons, ih]
   by_cases ha : a = s
   ·subst ha
    rw [if_pos rfl, if_pos rfl, List.find?_cons, isK_no hy]
   ·rw [if_neg ha, if_neg ha, List.find?_cons]
theorem SameK.upd {D : DataW Unit} {P : List α} (h : SameK D P) {s : ByteArray} (hh : hasS D s = true) {f : α → α} (hf : ∀ y, Kd.key (f y) = Kd.key y) : SameK (putR D s (f (recAt α D s))) (updK s f P) := by
 refine ⟨h.good.put _ _, by rw [updK_len, h.len, size_putR h.good, hh]; rfl, fun a => ?_⟩
 rw [find_upd hf]
 by_cases ha : a = s
 ·subst ha
  rw [if_pos rfl, if_pos ((hasR_put h.good _ _ _).2 (.inl rfl)), recAt_put_same h.good, h.find, if_pos hh]
  rfl
 ·rw [if_neg ha, h.find, recAt_put_other ha]
  by_cases h9 : hasS D a = true
  ·rw [if_pos h9, if_pos ((hasR_put h.good _ _ _).2 (.inr h9))]
  ·rw [if_neg h9, if_neg (fun h2 => ((hasR_put h.good _ _ _).1 h2).elim ha h9)]
theorem find_mem {P : List α} {s : ByteArray} {y : α} (h : findK P s = some y) : y ∈ P ∧ Kd.key y = s := ⟨List.mem_of_find?_eq_some h, isK_iff.1 (List.find?_some h)⟩
theorem find_of_mem {P : List α} (h : StrictK P) {y : α} (hy : y ∈ P) : findK P (Kd.key y) = some y := by
 unfold findK
 induction P with
 | nil => cases hy
 | cons z P ih =>
  obtain ⟨h1, h2⟩ := List.pairwise_cons.1 h
  rw [List.find?_cons]
  rcases List.mem_cons.1 hy with rfl | hy
  ·rw [isK_iff.2 rfl]
  ·have hne : Kd.key z ≠ Kd.key y := fun e => by
    have := h1 y hy
    rw [e] at this
    exact List.lt_irrefl _ this
   rw [isK_no hne]
   exact ih h2 hy
/-- The list is the map's records, in their names' order. -/
theorem rows_eq {D : DataW Unit} {P : List α} (h : SameK D P) (hs : StrictK P) : P = rowsOf α D := by
 have hkeys : P.map Kd.key = lstS D := by
  have hst : StrictS (P.map Kd.key) := List.pairwise_map.2 hs
  rw [← strict_srt hst]
  refine lstS_ext (goodS_set _) h.good.keys fun s => ?_
  rw [hasS_set, List.mem_map]
  constructor
  ·rintro ⟨y, hy, rfl⟩
   rw [← h.has, find_of_mem hs hy]
   rfl
  ·intro hh
   have h1 := h.find s
   rw [if_pos hh] at h1
   obtain ⟨h2, h3⟩ := find_mem h1
   exact ⟨_, h2, h3⟩
 unfold rowsOf
 rw [← hkeys, List.map_map]
 conv => lhs; rw [← List.map_id P]
 refine List.map_congr_left fun y hy => ?_
 have h1 := h.find (Kd.key y)
 rw [find_of_mem hs hy] at h1
 split at h1
 ·injection h1
 ·cases h1
section
variable {valid : ByteArray → Bool} {most : Nat} {ahead behind : α → Int}
theorem strict_go (l : List α) : ∀ (st : Int × List α), StrictK st.2 → StrictK (l.foldl (step8 valid most ahead behind) st).2 := by
 induction l with
 | nil => intro st h; exact h
 | cons x l ih =>
  intro st h
  rw [List.foldl_cons]
  refine ih _ ?_
  unfold step8
  split
  ·exact h
  ·simp only
   split
   ·rename_i h1
    refine strict_ins h ?_
    unfold err8 at h1
    cases hf : findK st.2 (Kd.key x)
    ·rfl
    ·exfalso
     rw [hf] at h1
     split at h1
     ·cases h1
     ·split at h1
      ·exact absurd h1 (by assumption)
      ·simp at h1
   ·exact h
theorem strict_out {P : List α} (h : StrictK P) (l : List α) : StrictK (out8 valid most ahead behind P l) := by
 unfold out8 go8
 split
 ·exact strict_go l _ h
 ·exact h
theorem out_mem {P : List α} (l : List α) : ∀ z ∈ out8 valid most ahead behind P l, z ∈ P ∨ z ∈ l := by
 unfold out8 go8
 split
 ·exact (go8_mem l _).2
 ·exact fun z hz => .inl hz
end
end

/-- What the program's data and the document's data have in common. -/
structure Agree (st : Rf) (s8 : R8) : Prop where
 ok : st.Ok
 p : SameK st.p s8.p
 a : SameK st.a s8.a
 s : SameK st.s s8.s
 h : SameI st.h s8.l
 xp : StrictK s8.p
 xa : StrictK s8.a
 xs : StrictK s8.s
 np : ∀ z ∈ s8.p, z.name.size ≤ 9223372036854775807
 na : ∀ z ∈ s8.a, z.name.size ≤ 9223372036854775807
 ns : ∀ z ∈ s8.s, z.name.size ≤ 9223372036854775807
 ne : s8.p ≠ []
 hh : Maps.size st.h ≤ 300
section
variable {st : Rf} {s8 : R8}
theorem noParty_eq (h : Agree st s8) : noParty8 s8 = noParty st := by
 funext x
 unfold noParty8 noParty
 rw [h.p.has]
theorem errP_eq (h : Agree st s8) (l : List Party) : errsP8 s8 l = errP st l := (h.p.go l).1
theorem errC_eq (h : Agree st s8) (l : List Account) : errsA8 s8 l = errC st l := by
 unfold errsA8 errC
 rw [noParty_eq h]
 exact (h.a.go l).1
theorem errS_eq (h : Agree st s8) (l : List Asset) : errsS8 s8 l = errS st l := (h.s.go l).1
theorem out_ne {α : Type} [Kd α] {valid : ByteArray → Bool} {most : Nat} {ahead behind : α → Int} {P : List α} (h : P ≠ []) (l : List α) : out8 valid most ahead behind P l ≠ [] := by
 have h1 : ∀ (l : List α) (st : Int × List α), st.2 ≠ [] → (l.foldl (step8 valid most ahead behind) st).2 ≠ [] := by
  intro l
  induction l with
  | nil => intro st h; exact h
  | cons x l ih =>
   intro st h
   rw [List.foldl_cons]
   refine ih _ ?_
   unfold step8
   split
   ·exact h
   ·simp only
    split
    ·intro e
     have := insK_len st.2 x
     rw [e] at this
     cases this
    ·exact h
 unfold out8 go8
 split
 ·exact h1 l _ h
 ·exact h
theorem Agree.addP (h : Agree st s8) {l : List Party} (hl : ∀ z ∈ l, z.name.size ≤ 9223372036854775807) : Agree (addP st l) (addsP8 s8 l) :=
 ⟨addP_ok h.ok l, h.p.out l, h.a, h.s, h.h, strict_out h.xp l, h.xa, h.xs, fun z hz => (out_mem l z hz).elim (h.np z) (hl z), h.na, h.ns, out_ne h.ne l, h.hh⟩
theorem Agree.addC (h : Agree st s8) {l : List Account} (hl : ∀ z ∈ l, z.name.size ≤ 9223372036854775807) : Agree (addC st l) (addsA8 s8 l) := by
 have e : addsA8 s8 l = ⟨s8.l, s8.p, out8 validS 20 (noParty st) (fun _ => 0) s8.a l, s8.s⟩ := by unfold addsA8; rw [noParty_eq h]
 rw [e]
 exact ⟨addC_ok h.ok l, h.p, h.a.out l, h.s, h.h, h.xp, strict_out h.xa l, h.xs, h.np, fun z hz => (out_mem l z hz).elim (h.na z) (hl z), h.ns, h.ne, h.hh⟩
theorem Agree.addS (h : Agree st s8) {l : List Asset} (hl : ∀ z ∈ l, z.name.size ≤ 9223372036854775807) : Agree (addS' st l) (addsS8 s8 l) :=
 ⟨addS_ok h.ok l, h.p, h.a, h.s.out l, h.h, h.xp, h.xa, strict_out h.xs l, h.np, h.na, fun z hz => (out_mem l z hz).elim (h.ns z) (hl z), h.ne, h.hh⟩
theorem key_rec {α : Type} [Kd α] {D : DataW Unit} {P : List α} (h : SameK D P) {s : ByteArray} (hh : hasS D s = true) : Kd.key (recAt α D s) = s ∧ recAt α D s ∈ P := by
 have h1 := h.find s
 rw [if_pos hh] at h1
 obtain ⟨h2, h3⟩ := find_mem h1
 exact ⟨h3, h2⟩
theorem upd_ne {α : Type} [Kd α] {P : List α} (h : P ≠ []) (s : ByteArray) (f : α → α) : updK s f P ≠ [] := fun e => h (List.eq_nil_of_length_eq_zero (by have := updK_len s f P; rw [e] at this; exact this.symm))
theorem errLi_eq (h : Agree st s8) (s : ByteArray) (n : Int) : errLi8 s8 s n = errLi st s n := by
 unfold errLi8 errLi
 rw [h.p.find s]
 cases hasS st.p s <;> rfl
theorem errPr_eq (h : Agree st s8) (s : ByteArray) (n : Int) : errPr8 s8 s n = errPr st s n := by
 unfold errPr8 errPr
 rw [h.s.find s]
 cases hasS st.s s <;> rfl
theorem Agree.setLi (h : Agree st s8) (s : ByteArray) (n : Int) : Agree (setLi st s n) (setLi8 s8 s n) := by
 unfold Go.Proofs.YtnpkplegeddhcaaGreat.setLi setLi8
 rw [errLi_eq h]
 split
 ·rename_i h0
  have hh : hasS st.p s = true := by
   cases hh : hasS st.p s
   ·rw [(errLi_none hh).1] at h0; cases h0
   ·rfl
  have hk : (recAt Party st.p s).name = s := (key_rec h.p hh).1
  rw [hk]
  have hu := h.p.upd hh (f := fun y => { y with limit := n }) (fun _ => rfl)
  have hs := strict_upd h.xp (s := s) (f := fun y => { y with limit := n }) (fun _ => rfl)
  refine ⟨⟨hu.good, h.ok.ga, h.ok.gs, ?_, h.ok.na, h.ok.ns⟩, hu, h.a, h.s, h.h, hs.1, h.xa, h.xs, fun z hz => ?_, h.na, h.ns, upd_ne h.ne _ _, h.hh⟩
  ·rw [← hu.len, updK_len, h.p.len]; exact h.ok.np
  ·obtain ⟨y, hy, e⟩ := hs.2 z hz
   rw [show z.name = y.name from e]
   exact h.np y hy
 ·exact h
theorem Agree.setPr (h : Agree st s8) (s : ByteArray) (n : Int) : Agree (setPr st s n) (setPr8 s8 s n) := by
 unfold Go.Proofs.YtnpkplegeddhcaaGreat.setPr setPr8
 rw [errPr_eq h]
 split
 ·rename_i h0
  have hh : hasS st.s s = true := by
   cases hh : hasS st.s s
   ·rw [(errPr_none hh).1] at h0; cases h0
   ·rfl
  have hk : (recAt Asset st.s s).name = s := (key_rec h.s hh).1
  rw [hk]
  have hu := h.s.upd hh (f := fun y => { y with price := n }) (fun _ => rfl)
  have hs := strict_upd h.xs (s := s) (f := fun y => { y with price := n }) (fun _ => rfl)
  refine ⟨⟨h.ok.gp, h.ok.ga, hu.good, h.ok.np, h.ok.na, ?_⟩, h.p, h.a, hu, h.h, h.xp, h.xa, hs.1, h.np, h.na, fun z hz => ?_, h.ne, h.hh⟩
  ·rw [← hu.len, updK_len, h.s.len]; exact h.ok.ns
  ·obtain ⟨y, hy, e⟩ := hs.2 z hz
   rw [show z.name = y.name from e]
   exact h.ns y hy
 ·exact h
/-- Closing days. -/
theorem Agree.close (h : Agree st s8) (l : List Int) : Agree ⟨st.p, st.a, st.s, outD st.h l⟩ ⟨outC8 s8.l l, s8.p, s8.a, s8.s⟩ := by
 refine ⟨⟨h.ok.gp, h.ok.ga, h.ok.gs, h.ok.np, h.ok.na, h.ok.ns⟩, h.p, h.a, h.s, h.h.out l, h.xp, h.xa, h.xs, h.np, h.na, h.ns, h.ne, ?_⟩
 show Maps.size (outD st.h l) ≤ 300
 unfold outD
 split
 ·rename_i h0
  unfold errMore at h0
  split at h0
  ·cases h0
  ·split at h0
   ·cases h0
   ·omega
 ·exact h.hh
theorem errClose_eq (h : Agree st s8) (l : List Int) : errC8 s8.l l = errMore st.h l := h.h.err l
/-- What a name answers. -/
theorem find_eq {α : Type} [Kd α] {D : DataW Unit} {P : List α} (h : SameK D P) (s : ByteArray) : (findK P s).getD Kd.zero = recAt α D s ∧ (findK P s).isSome = hasS D s := by
 refine ⟨?_, h.has s⟩
 rw [h.find s]
 by_cases hh : hasS D s = true
 ·rw [if_pos hh]; rfl
 ·rw [if_neg hh, recAt_none (by simpa using hh)]; rfl
theorem rowsP_eq (h : Agree st s8) : rowsOf Party st.p = s8.p := (rows_eq h.p h.xp).symm
theorem rowsS_eq (h : Agree st s8) : rowsOf Asset st.s = s8.s := (rows_eq h.s h.xs).symm
theorem own_eq (h : Agree st s8) (p : ByteArray) : ownRows st p = accs8 s8 p := by
 unfold ownRows accs8
 rw [← rows_eq h.a h.xa]
theorem isI_eq (h : Agree st s8) : isI s8.l = isB st.h := funext h.h.is
theorem lens (h : Agree st s8) : s8.p.length ≤ 20 ∧ s8.a.length ≤ 20 ∧ s8.s.length ≤ 12 ∧ s8.l.length ≤ 300 := by
 have h1 := h.p.len
 have h2 := h.a.len
 have h3 := h.s.len
 have h4 := h.h.len
 have h5 := h.ok.np
 have h6 := h.ok.na
 have h7 := h.ok.ns
 have h8 := h.hh
 omega
theorem ne_size (h : Agree st s8) : Maps.size st.p ≠ 0 := by
 rw [← h.p.len]
 exact fun e => h.ne (List.eq_nil_of_length_eq_zero e)
theorem setD_addD (l : List Int) : setD l = addD (setD []) l := by
 have h1 : ∀ k, k ≤ l.length → setD (l.take k) = addD (setD []) (l.take k) := by
  intro k
  induction k with
  | zero => intro _; rfl
  | succ k ih =>
   intro hk
   have hz := List.getElem?_eq_getElem (show k < l.length from hk)
   rw [setD_step hz, addD_step hz, ih (by omega)]
 have := h1 l.length (Nat.le_refl _)
 rwa [List.take_length] at this
theorem errNew_more (l : List Int) : errNew l = errMore (setD []) l := by
 unfold errNew errMore
 rw [setD_addD]
theorem agree0 {D : DataW Unit} {L : List Int} (h : SameI D L) (hh : Maps.size D ≤ 300) : Agree ⟨rf0.p, rf0.a, .map [], D⟩ ⟨L, x0.p, x0.a, []⟩ := by
 refine ⟨⟨goodR_none.put _ _, goodR_none.put _ _, goodR_none, rf0_ok.np, rf0_ok.na, rf0_ok.ns⟩, ?_, ?_, SameK.none_, h, ?_, ?_, strict_nil, ?_, ?_, fun z hz => (by cases hz), List.cons_ne_nil _ _, hh⟩
 ·exact (SameK.none_ (α := Party)).put (x := ⟨bankS, 0⟩) (by kernel_rfl)
 ·exact (SameK.none_ (α := Account)).put (x := ⟨bankS, bankS⟩) (by kernel_rfl)
 ·exact List.pairwise_singleton _ _
 ·exact List.pairwise_singleton _ _
 ·intro z hz
  obtain rfl : z = ⟨bankS, 0⟩ := by simpa [x0] using hz
  decide
 ·intro z hz
  obtain rfl : z = ⟨bankS, bankS⟩ := by simpa [x0] using hz
  decide
/-- A new one with these days closed. -/
theorem agree_new {l : List Int} (he : errNew l = 0) : Agree ⟨rf0.p, rf0.a, .map [], setD l⟩ ⟨outC8 [] l, x0.p, x0.a, []⟩ := by
 rw [errNew_more] at he
 have h1 : outD (setD []) l = setD l := by rw [outD_ok he, ← setD_addD]
 have h2 := sameI_none.out l
 rw [h1] at h2
 refine agree0 h2 ?_
 rw [setD_addD]
 unfold errMore at he
 split at he
 ·cases he
 ·split at he
  ·cases he
  ·omega
theorem agree_none : Agree rf0 x0 := agree0 (D := setD []) sameI_none (by decide)
end
end Go.Proofs.YtnpkplegeddhcaaGreat
