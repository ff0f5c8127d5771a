/-
  Texts of one chapter joined: XSnPlain, XSnFil, XSnDef, XSnD.
  Conditions: each lemma's own premises.
-/
import Derived.Test.YtjhinifmdjlblaaGreatSumPlain
import Derived.Test.YtjhinifmdjlblaaGreatWalD
namespace Go.Proofs.YtjhinifmdjlblaaGreat
namespace Snp
open Go.Proofs.YtjhinifmdjlblaaGreat.Sum (frames scan frames_append frames_cons frames_nil frame_length scan_frames frames_length)
abbrev Bs := List UInt8

def dig (n : Nat) : UInt8 := UInt8.ofNat (48 + n % 10)
def digsF : Nat → Nat → Bs
  | 0, _ => []
  | f + 1, n => if n < 10 then [dig n] else digsF f (n / 10) ++ [dig n]
def digs (n : Nat) : Bs := digsF 20 n
def isDig (d : UInt8) : Bool := decide (48 ≤ d.toNat) && decide (d.toNat ≤ 57)
def val (l : Bs) : Nat := l.foldl (fun n d => 10 * n + (d.toNat - 48)) 0
theorem val_snoc (l : Bs) (d : UInt8) : val (l ++ [d]) = 10 * val l + (d.toNat - 48) := by simp [val]
theorem dig_toNat (n : Nat) : (dig n).toNat = 48 + n % 10 := by
  unfold dig
  rw [UInt8.toNat_ofNat']
  omega
theorem dig_is (n : Nat) : isDig (dig n) = true := by
  unfold isDig
  rw [dig_toNat]
  simp
  omega
theorem digsF_val : ∀ (f n : Nat), n < 10 ^ f → 0 < f → val (digsF f n) = n ∧ (digsF f n).all isDig = true ∧ 1 ≤ (digsF f n).length ∧ (digsF f n).length ≤ f ∧ (1 ≤ n → (digsF f n).head? ≠ some 48) ∧ (2 ≤ (digsF f n).length → 10 ≤ n)
  | 0, _, _, h => by omega
  | f + 1, n, h, _ => by
    unfold digsF
    by_cases hn : n < 10
    · rw [if_pos hn]
      refine ⟨?_, ?_, by simp, by simp, fun h1 e => ?_, fun h2 => by simp at h2⟩
      · simp [val, dig_toNat]; omega
      · simp [dig_is]
      · simp only [List.head?_cons, Option.some.injEq] at e
        have := dig_toNat n
        rw [e] at this
        have e48 : (48 : UInt8).toNat = 48 := rfl
        omega
    · rw [if_neg hn]
      have hf : 0 < f := by
        rcases Nat.eq_zero_or_pos f with h0 | h0
        · subst h0; simp at h; omega
        · exact h0
      have hd : n / 10 < 10 ^ f := by
        rw [Nat.pow_succ] at h
        omega
      obtain ⟨i1, i2, i3, i4, i5, i6⟩ := digsF_val f (n / 10) hd hf
      refine ⟨?_, ?_, by simp, by simp; omega, fun h1 e => ?_, fun _ => by omega⟩
      · rw [val_snoc, i1, dig_toNat]; omega
      · rw [List.all_append, i2]; simp [dig_is]
      · have hne : digsF f (n / 10) ≠ [] := fun e => by rw [e] at i3; simp at i3
        obtain ⟨a, r, hr⟩ := List.exists_cons_of_ne_nil hne
        rw [hr] at e
        exact i5 (by omega) (by rw [hr]; exact e)
theorem digsF_short : ∀ (f k n : Nat), n < 10 ^ k → 1 ≤ k → (digsF f n).length ≤ k
  | 0, _, _, _, _ => by simp [digsF]
  | f + 1, k, n, h, hk => by
    unfold digsF
    by_cases hn : n < 10
    · rw [if_pos hn]; simpa using hk
    · rw [if_neg hn]
      have h1 : 1 < k := by
        rcases Nat.lt_or_ge 1 k with h1 | h1
        · exact h1
        · have : k = 1 := by omega
          subst this
          simp at h; omega
      obtain ⟨j, rfl⟩ : ∃ j, k = j + 1 := ⟨k - 1, by omega⟩
      have hd : n / 10 < 10 ^ j := by rw [Nat.pow_succ] at h; omega
      have := digsF_short f j (n / 10) hd (by omega)
      simp; omega
theorem digs_val {n : Nat} (h : n < 100000000000000000000) : val (digs n) = n := (digsF_val 20 n (by simpa using h) (by omega)).1
theorem digs_inj {m n : Nat} (hm : m < 100000000000000000000) (hn : n < 100000000000000000000) (h : digs m = digs n) : m = n := by
  rw [← digs_val hm, h, digs_val hn]
theorem digs_len (n : Nat) (h : n < 100000000000000000000) : 1 ≤ (digs n).length ∧ (digs n).length ≤ 20 := by
  obtain ⟨_, _, i3, i4, _⟩ := digsF_val 20 n (by simpa using h) (by omega)
  exact ⟨i3, i4⟩
theorem digs_all {n : Nat} (h : n < 100000000000000000000) : (digs n).all isDig = true := (digsF_val 20 n (by simpa using h) (by omega)).2.1

/-- What is behind a text, if it stands at the front. -/
def cutP (s ahead : Bs) : Bs × Bool := if ahead.isPrefixOf s = true then (s.drop ahead.length, true) else (s, false)
def numOk (d : Bs) (below : Bool) : Bool := !d.isEmpty && decide (d.length ≤ 18) && !((d.head? == some 48) && (decide (1 < d.length) || below)) && d.all isDig
def numberP (s : Bs) : Int × Bool :=
  if numOk (cutP s [45]).1 (cutP s [45]).2 = true then (if (cutP s [45]).2 = true then -(val (cutP s [45]).1 : Int) else (val (cutP s [45]).1 : Int), true) else (0, false)
def numAt (file ahead : Bs) : Int × Bool := ((numberP (cutP file ahead).1).1, (cutP file ahead).2 && (numberP (cutP file ahead).1).2 && decide (0 ≤ (numberP (cutP file ahead).1).1))
theorem cutP_app (a b : Bs) : cutP (a ++ b) a = (b, true) := by
  unfold cutP
  have h : a.isPrefixOf (a ++ b) = true := List.isPrefixOf_iff_prefix.2 ⟨b, rfl⟩
  rw [if_pos h]
  simp
theorem cutP_not {s a : Bs} (h : ¬ a <+: s) : cutP s a = (s, false) := by
  unfold cutP
  rw [if_neg (fun e => h (List.isPrefixOf_iff_prefix.1 e))]
theorem digs_minus {n : Nat} (h : n < 100000000000000000000) : cutP (digs n) [45] = (digs n, false) := by
  refine cutP_not fun hp => ?_
  obtain ⟨r, hr⟩ := hp
  have ha := digs_all h
  rw [← hr] at ha
  simp [isDig] at ha
theorem number_digs {n : Nat} (h : n < 1000000000000000000) : numberP (digs n) = ((n : Int), true) := by
  have h20 : n < 100000000000000000000 := by omega
  obtain ⟨i1, i2, i3, i4, i5, i6⟩ := digsF_val 20 n (by simpa using h20) (by omega)
  have hs := digsF_short 20 18 n (by simpa using h) (by omega)
  change (digs n).length ≤ 18 at hs
  change val (digs n) = n at i1
  change (digs n).all isDig = true at i2
  change 1 ≤ (digs n).length at i3
  change 1 ≤ n → (digs n).head? ≠ some 48 at i5
  change 2 ≤ (digs n).length → 10 ≤ n at i6
  have hok : numOk (digs n) false = true := by
    unfold numOk
    rw [i2]
    have e1 : (digs n).isEmpty = false := by
      cases hd : digs n with
      | nil => rw [hd] at i3; simp at i3
      | cons a l => rfl
    have e2 : ((digs n).head? == some 48 && (decide (1 < (digs n).length) || false)) = false := by
      by_cases h2 : 1 < (digs n).length
      · have : ((digs n).head? == some 48) = false := beq_false_of_ne (i5 (by have := i6 h2; omega))
        rw [this]; rfl
      · simp [h2]
    rw [e1, e2]
    simp [hs]
  unfold numberP
  rw [digs_minus h20]
  simp only [hok, if_true]
  rw [if_neg (by decide), i1]
theorem numAt_digs {n : Nat} (h : n < 1000000000000000000) (a : Bs) : numAt (a ++ digs n) a = ((n : Int), true) := by
  unfold numAt
  rw [cutP_app, number_digs h]
  simp
theorem numAt_not {s a : Bs} (h : ¬ a <+: s) : (numAt s a).2 = false := by
  unfold numAt
  rw [cutP_not h]
  rfl

/-! ### a picture's bytes -/
def chunksF : Nat → Bs → List Bs
  | 0, _ => []
  | f + 1, l => l.take 60000 :: (if (l.drop 60000).isEmpty = true then [] else chunksF f (l.drop 60000))
def chunks (l : Bs) : List Bs := chunksF (l.length + 1) l
theorem chunksF_more : ∀ (f g : Nat) (l : Bs), l.length < f → l.length < g → chunksF f l = chunksF g l
  | 0, _, _, h, _ => by omega
  | _, 0, _, _, h => by omega
  | f + 1, g + 1, l, hf, hg => by
    unfold chunksF
    split
    · rfl
    · rename_i hne
      have : (l.drop 60000).length < l.length := by
        have : l.drop 60000 ≠ [] := fun e => hne (by rw [e]; rfl)
        have := List.length_pos_iff.2 this
        simp at this ⊢; omega
      rw [chunksF_more f g (l.drop 60000) (by omega) (by omega)]
theorem chunks_eq (l : Bs) : chunks l = l.take 60000 :: (if (l.drop 60000).isEmpty = true then [] else chunks (l.drop 60000)) := by
  conv => lhs; unfold chunks chunksF
  split
  · rfl
  · rename_i hne
    have : (l.drop 60000).length < l.length := by
      have : l.drop 60000 ≠ [] := fun e => hne (by rw [e]; rfl)
      have := List.length_pos_iff.2 this
      simp at this ⊢; omega
    have e : chunksF l.length (l.drop 60000) = chunks (l.drop 60000) := chunksF_more _ _ _ this (by omega)
    rw [e]
theorem chunks_all (n : Nat) : ∀ l : Bs, l.length ≤ n → (chunks l).flatten = l ∧ (∀ c ∈ chunks l, c.length ≤ 60000) ∧ (chunks l).length ≤ l.length / 60000 + 1 := by
  induction n with
  | zero =>
    intro l h
    obtain rfl : l = [] := List.eq_nil_of_length_eq_zero (by omega)
    rw [chunks_eq]
    simp
  | succ n ih =>
    intro l h
    rw [chunks_eq]
    by_cases he : (l.drop 60000).isEmpty = true
    · rw [if_pos he]
      have : l.drop 60000 = [] := List.isEmpty_iff.1 he
      have hl : l.length ≤ 60000 := by simpa using this
      refine ⟨by simp [List.take_of_length_le hl], by simp; omega, by simp⟩
    · rw [if_neg he]
      have hne : l.drop 60000 ≠ [] := fun e => he (by rw [e]; rfl)
      have hp := List.length_pos_iff.2 hne
      have hd : (l.drop 60000).length = l.length - 60000 := by simp
      obtain ⟨i1, i2, i3⟩ := ih (l.drop 60000) (by omega)
      refine ⟨by simp [i1], ?_, ?_⟩
      · intro c hc
        rcases List.mem_cons.1 hc with rfl | hc
        · simp; omega
        · exact i2 c hc
      · rw [List.length_cons]
        rw [hd] at i3
        omega
def endP (n : Nat) : Bs := 101 :: 110 :: 100 :: digs n
def layL (l : Bs) : List Bs := chunks l ++ [endP l.length]
def layP (l : Bs) : Bs := frames (layL l)
def readP (b : Bs) : Bs × Bool := if (scan b).1.isEmpty = true then ([], false) else ((scan b).1.dropLast.flatten, decide (layP (scan b).1.dropLast.flatten = b))
theorem endP_len (n : Nat) (h : n < 100000000000000000000) : (endP n).length ≤ 23 := by
  have := (digs_len n h).2
  simp [endP]; omega
theorem layL_le (l : Bs) (h : l.length < 100000000000000000000) : ∀ c ∈ layL l, c.length ≤ 60000 := by
  intro c hc
  unfold layL at hc
  rcases List.mem_append.1 hc with h1 | h1
  · exact (chunks_all _ l (Nat.le_refl _)).2.1 c h1
  · obtain rfl : c = endP l.length := by simpa using h1
    have := endP_len l.length h
    omega
theorem read_lay (l : Bs) (h : l.length < 100000000000000000000) : readP (layP l) = (l, true) := by
  have hs : (scan (layP l)).1 = layL l := by
    have := scan_frames (layL_le l h) []
    rw [List.append_nil] at this
    unfold layP
    rw [this, Sum.scan_short (by simp)]
    simp
  have hd : (layL l).dropLast = chunks l := by unfold layL; rw [List.dropLast_concat]
  have hne : (layL l).isEmpty = false := by unfold layL; cases chunks l <;> rfl
  unfold readP
  rw [hs, hd, (chunks_all _ l (Nat.le_refl _)).1, hne]
  simp
theorem total_flat (ls : List Bs) : Sum.total ls = ls.flatten.length := by
  induction ls with
  | nil => rfl
  | cons a l ih => simp only [Sum.total, List.map_cons, List.sum_cons, List.flatten_cons, List.length_append] at ih ⊢; rw [ih]
theorem lay_len (l : Bs) (h : l.length < 100000000000000000000) : (layP l).length ≤ l.length + 8 * (l.length / 60000) + 39 := by
  have h1 := chunks_all _ l (Nat.le_refl _)
  have h2 := endP_len l.length h
  unfold layP
  rw [frames_length, total_flat]
  unfold layL
  rw [List.flatten_append, h1.1]
  simp
  omega
end Snp
end Go.Proofs.YtjhinifmdjlblaaGreat
namespace Go.Proofs.YtjhinifmdjlblaaGreat
open Go.RowKit Go.Maps Go.Sort
set_option maxRecDepth 100000

theorem strKeys_nodup {D : DataW Unit} (h : GoodS D) : (strKeys D).Nodup := by
  obtain ⟨ht, es, rfl, hk⟩ := h
  obtain ⟨_, e1, hp⟩ := ht
  injection e1 with e1
  subst e1
  show (es.map fun p => strOf p.1).Nodup
  refine List.pairwise_map.2 (hp.imp_of_mem fun {p q} hp' hq' hne e => hne ?_)
  obtain ⟨a, ha⟩ := hk p hp'
  obtain ⟨b, hb⟩ := hk q hq'
  rw [ha, hb] at e ⊢
  exact congrArg _ e
abbrev Fm := ByteArray → Option (ByteArray × Int)
def Fm.set (m : Fm) (s : ByteArray) (v : Option (ByteArray × Int)) : Fm := fun t => if t = s then v else m t
theorem Fm.set_same (m : Fm) (s : ByteArray) (v : Option (ByteArray × Int)) : m.set s v s = v := if_pos rfl
theorem Fm.set_other (m : Fm) {s t : ByteArray} (v : Option (ByteArray × Int)) (h : t ≠ s) : m.set s v t = m t := if_neg h
structure Files (fs : DataW Unit) (m : Fm) : Prop where
  good : GoodF fs
  none_ : ∀ s, m s = none → hasS fs s = false
  some_ : ∀ s v, m s = some v → hasS fs s = true ∧ fileAt fs s = v
section
variable {fs : DataW Unit} {m m' : Fm}
theorem files_none : Files (.map []) (fun _ => none) := ⟨goodF_none, fun _ _ => rfl, fun _ _ h => by cases h⟩
theorem Files.congr (h : Files fs m) (e : ∀ s, m s = m' s) : Files fs m' := ⟨h.good, fun s hs => h.none_ s ((e s).trans hs), fun s v hs => h.some_ s v ((e s).trans hs)⟩
theorem Files.has (h : Files fs m) (s : ByteArray) : hasS fs s = (m s).isSome := by
  cases hm : m s with
  | none => rw [h.none_ s hm]; rfl
  | some v => rw [(h.some_ s v hm).1]; rfl
theorem Files.isSome (h : Files fs m) {s : ByteArray} (hh : hasS fs s = true) : ∃ v, m s = some v := by
  rw [h.has] at hh
  exact Option.isSome_iff_exists.1 hh
theorem Files.sync (h : Files fs m) {s x : ByteArray} {n : Int} (hm : m s = some (x, n)) : 0 ≤ n ∧ n ≤ (x.size : Int) := by
  have h1 := fileAt_form h.good s
  rw [(h.some_ s _ hm).2] at h1
  exact h1.2
theorem Files.put (h : Files fs m) (s x : ByteArray) {n : Int} (h0 : 0 ≤ n) (h1 : n ≤ (x.size : Int)) : Files (putF fs s x n) (m.set s (some (x, n))) := by
  refine ⟨h.good.put s x h0 h1, fun t ht => ?_, fun t v ht => ?_⟩
  · by_cases e : t = s
    · subst e; rw [Fm.set_same] at ht; cases ht
    · rw [Fm.set_other _ _ e] at ht
      have h2 := h.none_ t ht
      rw [Bool.eq_false_iff]
      intro h3
      rcases (hasF_put h.good s x n t).1 h3 with h4 | h4
      · exact e h4
      · rw [h2] at h4; cases h4
  · by_cases e : t = s
    · subst e; rw [Fm.set_same] at ht; injection ht with ht; subst ht
      exact ⟨(hasF_put h.good t x n t).2 (.inl rfl), fileAt_put_same h.good t x n⟩
    · rw [Fm.set_other _ _ e] at ht
      obtain ⟨h2, h3⟩ := h.some_ t v ht
      exact ⟨(hasF_put h.good s x n t).2 (.inr h2), by rw [fileAt_put_other e]; exact h3⟩
theorem Files.del (h : Files fs m) (s : ByteArray) : Files (delF fs s) (m.set s none) := by
  refine ⟨h.good.del s, fun t ht => ?_, fun t v ht => ?_⟩
  · rw [Bool.eq_false_iff]
    intro h3
    obtain ⟨h4, h5⟩ := (hasF_del s t).1 h3
    rw [Fm.set_other _ _ h4] at ht
    rw [h.none_ t ht] at h5; cases h5
  · by_cases e : t = s
    · subst e; rw [Fm.set_same] at ht; cases ht
    · rw [Fm.set_other _ _ e] at ht
      obtain ⟨h2, h3⟩ := h.some_ t v ht
      exact ⟨(hasF_del s t).2 ⟨e, h2⟩, by rw [fileAt_del_other e]; exact h3⟩
/-- How many files there are: no more than names. -/
theorem few_names : ∀ (L : List ByteArray) {fs : DataW Unit}, GoodF fs → (∀ s, hasS fs s = true → s ∈ L) → Maps.size fs ≤ L.length
  | [], fs, h, hL => by
    obtain ⟨_, es, rfl, hk⟩ := h
    cases es with
    | nil => exact Nat.le_refl _
    | cons p r =>
      obtain ⟨s, _, _, e, _⟩ := hk p (by simp)
      have : hasS (.map (p :: r)) s = true := by
        unfold hasS
        rw [has_eq, List.any_eq_true]
        exact ⟨p, by simp, by rw [e]; exact key_self s⟩
      exact absurd (hL s this) (by simp)
  | s :: L, fs, h, hL => by
    have h1 := few_names L (h.del s) fun t ht => by
      obtain ⟨h2, h3⟩ := (hasF_del s t).1 ht
      rcases List.mem_cons.1 (hL t h3) with h4 | h4
      · exact absurd h4 h2
      · exact h4
    have h2 := sizeF_del h s
    rw [List.length_cons]
    split at h2 <;> omega
theorem tot_names : ∀ (L : List ByteArray) {fs : DataW Unit}, GoodF fs → (∀ s, hasS fs s = true → s ∈ L) → totF fs ≤ (L.map fun s => (fileAt fs s).1.size).sum
  | [], fs, h, hL => by
    have h1 := few_names [] h hL
    obtain ⟨_, es, rfl, hk⟩ := h
    cases es with
    | nil => exact Nat.le_refl _
    | cons p r => simp [size_eq] at h1
  | s :: L, fs, h, hL => by
    have h1 := tot_names L (h.del s) fun t ht => by
      obtain ⟨h2, h3⟩ := (hasF_del s t).1 ht
      rcases List.mem_cons.1 (hL t h3) with h4 | h4
      · exact absurd h4 h2
      · exact h4
    have h2 := totF_del h s
    have h3 : ∀ M : List ByteArray, (M.map fun t => (fileAt (delF fs s) t).1.size).sum ≤ (M.map fun t => (fileAt fs t).1.size).sum := by
      intro M
      induction M with
      | nil => exact Nat.le_refl _
      | cons t M ih =>
        simp only [List.map_cons, List.sum_cons]
        have : (fileAt (delF fs s) t).1.size ≤ (fileAt fs t).1.size := by
          by_cases e : t = s
          · subst e
            have : hasS (delF fs t) t = false := by
              rw [Bool.eq_false_iff]
              intro h4
              exact ((hasF_del t t).1 h4).1 rfl
            rw [fileAt_none this]
            exact Nat.zero_le _
          · rw [fileAt_del_other e]
            exact Nat.le_refl _
        omega
    have := h3 L
    simp only [List.map_cons, List.sum_cons]
    omega
def szOf : Option (ByteArray × Int) → Nat
  | some v => v.1.size
  | none => 0
theorem Files.szAt (h : Files fs m) (s : ByteArray) : (fileAt fs s).1.size = szOf (m s) := by
  cases hm : m s with
  | none => rw [fileAt_none (h.none_ s hm)]; rfl
  | some v => rw [(h.some_ s v hm).2]; rfl
theorem Files.few (h : Files fs m) (L : List ByteArray) (hL : ∀ s v, m s = some v → s ∈ L) : Maps.size fs ≤ L.length :=
  few_names L h.good fun s hs => by obtain ⟨v, hv⟩ := h.isSome hs; exact hL s v hv
theorem Files.tot (h : Files fs m) (L : List ByteArray) (hL : ∀ s v, m s = some v → s ∈ L) : totF fs ≤ (L.map fun s => szOf (m s)).sum := by
  have := tot_names L h.good fun s hs => by obtain ⟨v, hv⟩ := h.isSome hs; exact hL s v hv
  rw [show (L.map fun s => (fileAt fs s).1.size) = L.map fun s => szOf (m s) from List.map_congr_left fun s _ => h.szAt s] at this
  exact this
theorem Files.mem (h : Files fs m) (s : ByteArray) : s ∈ lstS fs ↔ ∃ v, m s = some v := by
  rw [mem_lstS h.good.keys, h.has]
  exact Option.isSome_iff_exists
theorem lst_nodup (h : GoodF fs) : (lstS fs).Nodup := by
  have h2 : ((strKeys fs).mergeSort leB).Nodup := (List.mergeSort_perm _ _).nodup_iff.2 (strKeys_nodup h.keys)
  unfold lstS
  refine List.pairwise_map.2 (h2.imp fun hne e => hne ?_)
  have h3 := congrArg (fun b : ByteArray => b.data.toList) e
  simpa using h3
/-- What a crash leaves of each file: a first part, and all that was synced. -/
theorem Files.crash (h : Files fs m) (keep : List Int) (l : List ByteArray) (hl : ∀ s ∈ l, hasS fs s = true) : ∀ i, GoodF (crashF keep l fs i) ∧ (∀ s, hasS (crashF keep l fs i) s = true ↔ hasS fs s = true) ∧
    ∀ s x n, m s = some (x, n) → (fileAt (crashF keep l fs i) s = (x, n) ∧ s ∉ l.take i) ∨ ∃ k : Nat, n ≤ k ∧ k ≤ x.size ∧ fileAt (crashF keep l fs i) s = (x.extract 0 k, (k : Int))
  | 0 => ⟨h.good, fun _ => Iff.rfl, fun s x n hm => .inl ⟨(h.some_ s _ hm).2, by simp⟩⟩
  | i + 1 => by
    obtain ⟨h1, h2, h3⟩ := h.crash keep l hl i
    cases hs : l[i]? with
    | none =>
      have e : crashF keep l fs (i + 1) = crashF keep l fs i := by
        show (match l[i]? with | some s => _ | none => _) = _
        rw [hs]
      rw [e]
      refine ⟨h1, h2, fun s x n hm => ?_⟩
      have hli : l.length ≤ i := by simpa using hs
      rw [List.take_of_length_le (show l.length ≤ i + 1 by omega)]
      have := h3 s x n hm
      rw [List.take_of_length_le hli] at this
      exact this
    | some t =>
      rw [crashF_step hs]
      have hh : hasS (crashF keep l fs i) t = true := (h2 t).2 (hl t (List.mem_of_getElem? hs))
      obtain ⟨E, hE⟩ : ∃ E, crashF keep l fs i = E := ⟨_, rfl⟩
      rw [hE] at h1 h2 h3 hh ⊢
      have hle : (cutOf keep i (fileAt E t)).size ≤ (fileAt E t).1.size := extract_le _ _
      refine ⟨h1.put t _ (by omega) (Int.le_refl _), fun u => ?_, fun s x n hm => ?_⟩
      · rw [hasF_put h1]
        constructor
        · rintro (rfl | h4)
          · exact (h2 u).1 hh
          · exact (h2 u).1 h4
        · exact fun h4 => .inr ((h2 u).2 h4)
      · by_cases e : s = t
        · subst e
          right
          rw [fileAt_put_same h1]
          have hsy := h.sync hm
          have key : ∀ (y : ByteArray) (a : Int), 0 ≤ a → a ≤ (y.size : Int) → ∃ k : Nat, a ≤ k ∧ k ≤ y.size ∧ cutOf keep i (y, a) = y.extract 0 k := by
            intro y a h5 h6
            have hk := kOf_range keep i (n := (y.size : Int) - a + 1) (by omega)
            refine ⟨(a + kOf keep i ((y.size : Int) - a + 1)).toNat, by omega, by omega, rfl⟩
          rcases h3 s x n hm with ⟨h4, _⟩ | ⟨k, h4, h5, h6⟩
          · rw [h4]
            obtain ⟨k, k1, k2, k3⟩ := key x n hsy.1 hsy.2
            rw [k3]
            refine ⟨k, k1, k2, ?_⟩
            rw [Sm.extract_size _ _ _ k2, Nat.sub_zero]
          · rw [h6]
            have hx : (x.extract 0 k).size = k := by rw [Sm.extract_size _ _ _ h5]; omega
            obtain ⟨j, k1, k2, k3⟩ := key (x.extract 0 k) (k : Int) (by omega) (by omega)
            rw [k3]
            have hj : j = k := by omega
            subst hj
            refine ⟨j, h4, h5, ?_⟩
            have e2 : (x.extract 0 j).extract 0 j = x.extract 0 j := of_data (by
              rw [Sm.extract_data', Sm.extract_data']
              simp [List.take_take])
            rw [e2, hx]
        · rw [fileAt_put_other e]
          rcases h3 s x n hm with ⟨h4, h5⟩ | h4
          · left
            refine ⟨h4, ?_⟩
            rw [take_snoc hs]
            simp [h5, e]
          · exact .inr h4
theorem Files.crashed (h : Files fs m) (keep : List Int) : ∃ m', Files (crashF keep (lstS fs) fs (lstS fs).length) m' ∧ (∀ s, m s = none → m' s = none) ∧ ∀ s x n, m s = some (x, n) → ∃ k : Nat, n ≤ k ∧ k ≤ x.size ∧ m' s = some (x.extract 0 k, (k : Int)) := by
  obtain ⟨h1, h2, h3⟩ := h.crash keep (lstS fs) (fun s hs => (mem_lstS h.good.keys s).1 hs) (lstS fs).length
  refine ⟨fun s => if hasS fs s = true then some (fileAt (crashF keep (lstS fs) fs (lstS fs).length) s) else none, ⟨h1, fun s hs => ?_, fun s v hs => ?_⟩, fun s hs => ?_, fun s x n hm => ?_⟩
  · by_cases e : hasS fs s = true
    · rw [if_pos e] at hs; cases hs
    · rw [Bool.eq_false_iff]
      exact fun h4 => e ((h2 s).1 h4)
  · by_cases e : hasS fs s = true
    · rw [if_pos e] at hs
      injection hs with hs
      exact ⟨(h2 s).2 e, hs⟩
    · rw [if_neg e] at hs; cases hs
  · simp only
    rw [if_neg]
    rw [h.none_ s hs]; decide
  · have hh := (h.some_ s _ hm).1
    simp only [hh, if_true]
    rcases h3 s x n hm with ⟨_, h4⟩ | ⟨k, k1, k2, k3⟩
    · rw [List.take_length] at h4
      exact absurd ((mem_lstS h.good.keys s).2 hh) h4
    · exact ⟨k, k1, k2, by rw [k3]⟩
end
/-- A disk that has power; with f a fuse may burn. -/
structure Pow (f : Bool) (st : Dk) (fs : DataW Unit) : Prop where
  ok : st.Ok
  on : st.on = true
  fu : f = false → st.fused = false
  fs_ : st.fs = fs
/-- A disk whose power is gone. -/
structure Dead (st : Dk) (fs : DataW Unit) : Prop where
  ok : st.Ok
  off : st.on = false
  fs_ : st.fs = fs
theorem Pow.on1 {st : Dk} {fs : DataW Unit} (h : Pow false st fs) : On1 st fs := ⟨h.ok, h.on, h.fu rfl, h.fs_⟩
theorem On1.pow {st : Dk} {fs : DataW Unit} (h : On1 st fs) : Pow false st fs := ⟨h.ok, h.on, fun _ => h.fu, h.fs_⟩
section
variable {f : Bool} {st : Dk} {fs : DataW Unit} {s t x : ByteArray}
theorem opD_pow (h : Pow f st fs) : (∃ st1, opD st = (st1, false) ∧ Pow f st1 fs) ∨ (f = true ∧ ∃ st1, opD st = (st1, true) ∧ Dead st1 fs) := by
  have h1 := opD_ok h.ok
  by_cases hf : st.fused = true
  · have hf2 : f = true := by
      cases f
      · rw [h.fu rfl] at hf; cases hf
      · rfl
    subst hf2
    by_cases hl : 0 < st.left
    · left
      have e : opD st = (⟨st.on, true, st.left - 1, min (st.ops + 1) 4611686018427387904, st.fs⟩, false) := by unfold opD; rw [if_pos hf, if_pos hl]
      rw [e] at h1
      exact ⟨_, e, h1, h.on, (fun e => by cases e), h.fs_⟩
    · right
      have e : opD st = (⟨false, false, st.left, min (st.ops + 1) 4611686018427387904, st.fs⟩, true) := by unfold opD; rw [if_pos hf, if_neg hl]
      rw [e] at h1
      exact ⟨rfl, _, e, h1, rfl, h.fs_⟩
  · left
    have e : opD st = (⟨st.on, false, st.left, min (st.ops + 1) 4611686018427387904, st.fs⟩, false) := by unfold opD; rw [if_neg hf]
    rw [e] at h1
    exact ⟨_, e, h1, h.on, fun _ => rfl, h.fs_⟩
theorem doD_pow (h : Pow f st fs) (W : Dk → Int) (K : Dk → Dk) : (∃ st1, Pow f st1 fs ∧ doD st W K = if W st1 = 0 then (0, K st1) else (W st1, st1)) ∨ (f = true ∧ ∃ st1, Dead st1 fs ∧ doD st W K = (14, st1)) := by
  rcases opD_pow h with ⟨st1, e, h1⟩ | ⟨hf, st1, e, h1⟩
  · refine .inl ⟨st1, h1, ?_⟩
    unfold doD
    rw [if_pos h.on, e, if_neg (show ¬ (false = true) by decide)]
  · refine .inr ⟨hf, st1, h1, ?_⟩
    unfold doD
    rw [if_pos h.on, e, if_pos rfl]
theorem create_pow (h : Pow f st fs) (hv : validB s = true) (hh : hasS fs s = false) (hz : Maps.size fs < 40) : (∃ st', createD st s = (0, st') ∧ Pow f st' (putF fs s ⟨#[]⟩ 0)) ∨ (f = true ∧ ∃ st', createD st s = (14, st') ∧ Dead st' fs) := by
  have hok := create_ok h.ok s
  unfold createD at hok ⊢
  rcases doD_pow h (fun x => createW x s) (fun x => x.with (putF x.fs s ⟨#[]⟩ 0)) with ⟨st1, h1, e⟩ | ⟨hf, st1, h1, e⟩
  · have hw : createW st1 s = 0 := by unfold createW; rw [if_pos hv, h1.fs_, if_neg (by rw [hh]; decide), if_neg (by omega)]
    rw [e] at hok ⊢
    simp only [hw, if_true] at hok ⊢
    exact .inl ⟨_, rfl, hok, h1.on, h1.fu, by show putF st1.fs s _ _ = _; rw [h1.fs_]⟩
  · rw [e]
    exact .inr ⟨hf, _, rfl, h1⟩
theorem sync_pow (h : Pow f st fs) (hh : hasS fs s = true) : (∃ st', syncD st s = (0, st') ∧ Pow f st' (putF fs s (fileAt fs s).1 ((fileAt fs s).1.size : Nat))) ∨ (f = true ∧ ∃ st', syncD st s = (14, st') ∧ Dead st' fs) := by
  have hok := sync_ok h.ok s
  unfold syncD at hok ⊢
  rcases doD_pow h (fun x => lacksD x s) (fun x => x.with (putF x.fs s (fileAt x.fs s).1 ((fileAt x.fs s).1.size : Nat))) with ⟨st1, h1, e⟩ | ⟨hf, st1, h1, e⟩
  · have hw : lacksD st1 s = 0 := by unfold lacksD; rw [h1.fs_, if_pos hh]
    rw [e] at hok ⊢
    simp only [hw, if_true] at hok ⊢
    exact .inl ⟨_, rfl, hok, h1.on, h1.fu, by show putF st1.fs s (fileAt st1.fs s).1 _ = _; rw [h1.fs_]⟩
  · rw [e]
    exact .inr ⟨hf, _, rfl, h1⟩
theorem remove_pow (h : Pow f st fs) (hh : hasS fs s = true) : (∃ st', removeD st s = (0, st') ∧ Pow f st' (delF fs s)) ∨ (f = true ∧ ∃ st', removeD st s = (14, st') ∧ Dead st' fs) := by
  have hok := remove_ok h.ok s
  unfold removeD at hok ⊢
  rcases doD_pow h (fun x => lacksD x s) (fun x => x.with (delF x.fs s)) with ⟨st1, h1, e⟩ | ⟨hf, st1, h1, e⟩
  · have hw : lacksD st1 s = 0 := by unfold lacksD; rw [h1.fs_, if_pos hh]
    rw [e] at hok ⊢
    simp only [hw, if_true] at hok ⊢
    exact .inl ⟨_, rfl, hok, h1.on, h1.fu, by show delF st1.fs s = _; rw [h1.fs_]⟩
  · rw [e]
    exact .inr ⟨hf, _, rfl, h1⟩
theorem rename_pow (h : Pow f st fs) (hh : hasS fs s = true) (hv : validB t = true) : (∃ st', renameD st s t = (0, st') ∧ Pow f st' (putF (delF fs s) t (fileAt fs s).1 (fileAt fs s).2)) ∨ (f = true ∧ ∃ st', renameD st s t = (14, st') ∧ Dead st' fs) := by
  have hok := rename_ok h.ok s t
  unfold renameD at hok ⊢
  rcases doD_pow h (fun x => renameW x s t) (fun x => x.with (putF (delF x.fs s) t (fileAt x.fs s).1 (fileAt x.fs s).2)) with ⟨st1, h1, e⟩ | ⟨hf, st1, h1, e⟩
  · have hw : renameW st1 s t = 0 := by unfold renameW; rw [h1.fs_, if_pos hh, if_pos hv]
    rw [e] at hok ⊢
    simp only [hw, if_true] at hok ⊢
    exact .inl ⟨_, rfl, hok, h1.on, h1.fu, by show putF (delF st1.fs s) t _ _ = _; rw [h1.fs_]⟩
  · rw [e]
    exact .inr ⟨hf, _, rfl, h1⟩
theorem append_pow (h : Pow f st fs) (hh : hasS fs s = true) (ht : totF fs + x.size ≤ 400000) : (∃ st', appendD st s x = (0, st') ∧ Pow f st' (putF fs s ((fileAt fs s).1 ++ x) (fileAt fs s).2)) ∨ (f = true ∧ ∃ st', appendD st s x = (14, st') ∧ Dead st' (putF fs s ((fileAt fs s).1 ++ x) (fileAt fs s).2)) := by
  have hok := append_ok h.ok s x
  have hg := append_gen h.on (s := s) (x := x) (by rw [h.fs_]; exact hh) (by rw [h.fs_]; exact ht)
  rw [h.fs_] at hg
  rcases opD_pow h with ⟨st1, e, h1⟩ | ⟨hf, st1, e, h1⟩
  · rw [e] at hg
    rw [hg] at hok ⊢
    exact .inl ⟨_, rfl, hok, h1.on, h1.fu, rfl⟩
  · rw [e] at hg
    rw [hg] at hok ⊢
    exact .inr ⟨hf, _, rfl, hok, h1.off, rfl⟩
end
end Go.Proofs.YtjhinifmdjlblaaGreat
namespace Go.Proofs.YtjhinifmdjlblaaGreat
open Go.RowKit Go.Maps Go.Sort
set_option maxRecDepth 100000

def digB (n : Nat) : ByteArray := ⟨(Snp.digs n).toArray⟩
def dirS (dir : ByteArray) : ByteArray := dir ++ ⟨#[46, 115]⟩
def dirL (dir : ByteArray) : ByteArray := dir ++ ⟨#[46, 108]⟩
def picB (dir : ByteArray) (n : Nat) : ByteArray := dirS dir ++ digB n
def lgB (dir : ByteArray) (n : Nat) : ByteArray := dirL dir ++ digB n
def workB (dir : ByteArray) : ByteArray := dir ++ ⟨#[46, 116]⟩
def numB (file ahead : ByteArray) : Int × Bool := Snp.numAt file.data.toList ahead.data.toList
def cutS (file : ByteArray) : ByteArray × Bool := if ([126] : List UInt8).isSuffixOf file.data.toList = true then (file.extract 0 (file.size - 1), true) else (file, false)
def findN (dir : ByteArray) : List ByteArray → Nat → Nat
  | [], n => n
  | f :: l, n => findN dir l (if (numB f (dirS dir)).2 = true ∧ (n : Int) < (numB f (dirS dir)).1 then (numB f (dirS dir)).1.toNat else n)
def oldB (dir : ByteArray) (n : Nat) (file : ByteArray) : Bool :=
  if (numB file (dirS dir)).2 = true then decide ((numB file (dirS dir)).1 ≠ n) || decide ((numB file (dirS dir)).1 = 0)
  else if (numB (cutS file).1 (dirL dir)).2 = true then (cutS file).2 || decide ((numB (cutS file).1 (dirL dir)).1 ≠ n)
  else decide (file = workB dir)
def cleanD (dir : ByteArray) (n : Nat) : List ByteArray → Dk → Int × Dk
  | [], st => (0, st)
  | f :: l, st => if oldB dir n f = true then (if (removeD st f).1 = 0 then cleanD dir n l (removeD st f).2 else removeD st f) else cleanD dir n l st
def layBA (s : ByteArray) : ByteArray := ⟨(Snp.layP s.data.toList).toArray⟩
def readBA (b : ByteArray) : ByteArray × Bool := (⟨(Snp.readP b.data.toList).1.toArray⟩, (Snp.readP b.data.toList).2)
/-- The picture of a round. -/
def baseD (dir : ByteArray) (n : Nat) (st : Dk) : Int × ByteArray :=
  if n = 0 then (0, ⟨#[]⟩) else if (readD st (picB dir n)).2 ≠ 0 then ((readD st (picB dir n)).2, ⟨#[]⟩) else if (readBA (readD st (picB dir n)).1).2 = true then (0, (readBA (readD st (picB dir n)).1).1) else (15, ⟨#[]⟩)
/-- A store: its round, its picture's state, and its log's groups. -/
structure Sg where
  n : Nat
  base : ByteArray
  gs : Wal.Gs
def openAt (dir : ByteArray) (n : Nat) (base : ByteArray) (st : Dk) : Int × Dk × Option Sg :=
  match (openD (lgB dir n) st).2.2 with
  | none => ((openD (lgB dir n) st).1, (openD (lgB dir n) st).2.1, none)
  | some gs => ((cleanD dir n (lstS (openD (lgB dir n) st).2.1.fs) (openD (lgB dir n) st).2.1).1, (cleanD dir n (lstS (openD (lgB dir n) st).2.1.fs) (openD (lgB dir n) st).2.1).2,
      if (cleanD dir n (lstS (openD (lgB dir n) st).2.1.fs) (openD (lgB dir n) st).2.1).1 = 0 then some ⟨n, base, gs⟩ else none)
def openS (dir : ByteArray) (st : Dk) : Int × Dk × Option Sg :=
  if (baseD dir (findN dir (lstS st.fs) 0) st).1 = 0 then openAt dir (findN dir (lstS st.fs) 0) (baseD dir (findN dir (lstS st.fs) 0) st).2 st
  else ((baseD dir (findN dir (lstS st.fs) 0) st).1, st, none)
/-- The steps of a new round, one by one. -/
def stepAt (dir : ByteArray) (n : Nat) (state : ByteArray) (k : Nat) (st : Dk) (o : Option Wal.Gs) : Int × Dk × Option Wal.Gs :=
  match k with
  | 0 => ((removeIf (workB dir) st).1, (removeIf (workB dir) st).2, o)
  | 1 => ((createD st (workB dir)).1, (createD st (workB dir)).2, o)
  | 2 => ((appendD st (workB dir) (layBA state)).1, (appendD st (workB dir) (layBA state)).2, o)
  | 3 => ((syncD st (workB dir)).1, (syncD st (workB dir)).2, o)
  | 4 => ((renameD st (workB dir) (picB dir (n + 1))).1, (renameD st (workB dir) (picB dir (n + 1))).2, o)
  | 5 => openD (lgB dir (n + 1)) st
  | 6 => ((removeIf (picB dir n) st).1, (removeIf (picB dir n) st).2, o)
  | _ => ((removeIf (lgB dir n) st).1, (removeIf (lgB dir n) st).2, o)
def runFrom (dir : ByteArray) (n : Nat) (state : ByteArray) : Nat → Nat → Dk → Option Wal.Gs → Int × Dk × Option Wal.Gs
  | 0, _, st, o => (0, st, o)
  | j + 1, k, st, o => if (stepAt dir n state k st o).1 = 0 then runFrom dir n state j (k + 1) (stepAt dir n state k st o).2.1 (stepAt dir n state k st o).2.2 else ((stepAt dir n state k st o).1, (stepAt dir n state k st o).2.1, none)
def nextD (dir : ByteArray) (n : Nat) (state : ByteArray) (st : Dk) : Int × Dk × Option Wal.Gs := runFrom dir n state 8 0 st none

/-! ### names -/
section
variable {dir : ByteArray} {m n : Nat}
theorem digB_data (n : Nat) : (digB n).data.toList = Snp.digs n := by simp [digB]
theorem dirS_data (dir : ByteArray) : (dirS dir).data.toList = dir.data.toList ++ [46, 115] := by unfold dirS; rw [Sm.data_append]
theorem dirL_data (dir : ByteArray) : (dirL dir).data.toList = dir.data.toList ++ [46, 108] := by unfold dirL; rw [Sm.data_append]
theorem pic_data (dir : ByteArray) (n : Nat) : (picB dir n).data.toList = dir.data.toList ++ [46, 115] ++ Snp.digs n := by unfold picB; rw [Sm.data_append, dirS_data, digB_data]
theorem lg_data (dir : ByteArray) (n : Nat) : (lgB dir n).data.toList = dir.data.toList ++ [46, 108] ++ Snp.digs n := by unfold lgB; rw [Sm.data_append, dirL_data, digB_data]
theorem work_data (dir : ByteArray) : (workB dir).data.toList = dir.data.toList ++ [46, 116] := by unfold workB; rw [Sm.data_append]
theorem pic_size (dir : ByteArray) (h : n < 1000000000000000) : 2 < (picB dir n).size ∧ (picB dir n).size ≤ dir.size + 17 := by
  have h1 := Snp.digs_len n (by omega)
  have h2 := Snp.digsF_short 20 15 n (by simpa using h) (by omega)
  change (Snp.digs n).length ≤ 15 at h2
  rw [← len_data, pic_data]
  simp; omega
theorem lg_size (dir : ByteArray) (h : n < 1000000000000000) : 2 < (lgB dir n).size ∧ (lgB dir n).size ≤ dir.size + 17 := by
  have h1 := Snp.digs_len n (by omega)
  have h2 := Snp.digsF_short 20 15 n (by simpa using h) (by omega)
  change (Snp.digs n).length ≤ 15 at h2
  rw [← len_data, lg_data]
  simp; omega
theorem work_size (dir : ByteArray) : (workB dir).size = dir.size + 2 := by rw [← len_data, work_data]; simp
theorem pic_inj (hm : m < 1000000000000000) (hn : n < 1000000000000000) (h : picB dir m = picB dir n) : m = n := by
  have h1 := congrArg (fun b : ByteArray => b.data.toList) h
  simp only [pic_data] at h1
  exact Snp.digs_inj (by omega) (by omega) (List.append_cancel_left h1)
theorem lg_inj (hm : m < 1000000000000000) (hn : n < 1000000000000000) (h : lgB dir m = lgB dir n) : m = n := by
  have h1 := congrArg (fun b : ByteArray => b.data.toList) h
  simp only [lg_data] at h1
  exact Snp.digs_inj (by omega) (by omega) (List.append_cancel_left h1)
theorem pic_ne_lg : picB dir m ≠ lgB dir n := fun h => by
  have h1 := congrArg (fun b : ByteArray => b.data.toList) h
  simp only [pic_data, lg_data, List.append_assoc] at h1
  have := List.append_cancel_left h1
  simp at this
theorem pic_ne_work : picB dir m ≠ workB dir := fun h => by
  have h1 := congrArg (fun b : ByteArray => b.data.toList) h
  simp only [pic_data, work_data, List.append_assoc] at h1
  have := List.append_cancel_left h1
  simp at this
theorem lg_ne_work : lgB dir m ≠ workB dir := fun h => by
  have h1 := congrArg (fun b : ByteArray => b.data.toList) h
  simp only [lg_data, work_data, List.append_assoc] at h1
  have := List.append_cancel_left h1
  simp at this
theorem digs_last (n : Nat) (h : n < 1000000000000000) (l : List UInt8) : ∃ d, (l ++ Snp.digs n).getLast? = some d ∧ Snp.isDig d = true := by
  have h1 := Snp.digs_len n (by omega)
  have h2 := Snp.digs_all (n := n) (by omega)
  have hne : Snp.digs n ≠ [] := fun e => by rw [e] at h1; simp at h1
  refine ⟨(Snp.digs n).getLast hne, ?_, List.all_eq_true.1 h2 _ (List.getLast_mem hne)⟩
  rw [List.getLast?_append, List.getLast?_eq_some_getLast hne]
  rfl
theorem spare_last (s : ByteArray) : (spareOf s).data.toList.getLast? = some 126 := by
  unfold spareOf
  rw [Sm.data_append]
  exact List.getLast?_concat
theorem spare_ne_lg (h : n < 1000000000000000) (s : ByteArray) : spareOf s ≠ lgB dir n := fun e => by
  have h1 := spare_last s
  rw [e, lg_data] at h1
  obtain ⟨d, h2, h3⟩ := digs_last n h (dir.data.toList ++ [46, 108])
  rw [h1] at h2
  injection h2 with h2
  subst h2
  exact absurd h3 (by decide)
theorem spare_ne_pic (h : n < 1000000000000000) (s : ByteArray) : spareOf s ≠ picB dir n := fun e => by
  have h1 := spare_last s
  rw [e, pic_data] at h1
  obtain ⟨d, h2, h3⟩ := digs_last n h (dir.data.toList ++ [46, 115])
  rw [h1] at h2
  injection h2 with h2
  subst h2
  exact absurd h3 (by decide)
theorem spare_ne_work (s : ByteArray) : spareOf s ≠ workB dir := fun e => by
  have h1 := spare_last s
  rw [e, work_data] at h1
  rw [List.getLast?_append] at h1
  simp at h1
theorem cutS_not {s : ByteArray} {d : UInt8} (h : s.data.toList.getLast? = some d) (hd : d ≠ 126) : cutS s = (s, false) := by
  unfold cutS
  rw [if_neg]
  intro e
  obtain ⟨t, ht⟩ := List.isSuffixOf_iff_suffix.1 e
  rw [← ht, List.getLast?_concat] at h
  injection h with h
  exact hd h.symm
theorem num_pic (dir : ByteArray) (h : n < 1000000000000000) : numB (picB dir n) (dirS dir) = ((n : Int), true) := by
  unfold numB
  rw [pic_data, dirS_data]
  exact Snp.numAt_digs (by omega) _
theorem num_lg (dir : ByteArray) (n : Nat) : (numB (lgB dir n) (dirS dir)).2 = false := by
  unfold numB
  rw [lg_data, dirS_data, List.append_assoc]
  refine Snp.numAt_not fun h => ?_
  rw [List.prefix_append_right_inj] at h
  simp at h
theorem num_work (dir : ByteArray) : (numB (workB dir) (dirS dir)).2 = false := by
  unfold numB
  rw [work_data, dirS_data]
  refine Snp.numAt_not fun h => ?_
  rw [List.prefix_append_right_inj] at h
  simp at h
theorem old_pic (dir : ByteArray) (k : Nat) (h : n < 1000000000000000) : oldB dir k (picB dir n) = (decide ((n : Int) ≠ k) || decide ((n : Int) = 0)) := by
  unfold oldB
  rw [num_pic dir h, if_pos rfl]
theorem old_lg (dir : ByteArray) (k : Nat) (h : n < 1000000000000000) : oldB dir k (lgB dir n) = decide ((n : Int) ≠ k) := by
  obtain ⟨d, h2, h3⟩ := digs_last n h (dir.data.toList ++ [46, 108])
  have hc : cutS (lgB dir n) = (lgB dir n, false) := cutS_not (d := d) (by rw [lg_data]; exact h2) (fun e => by rw [e] at h3; exact absurd h3 (by decide))
  have hn : numB (lgB dir n) (dirL dir) = ((n : Int), true) := by
    unfold numB
    rw [lg_data, dirL_data]
    exact Snp.numAt_digs (by omega) _
  unfold oldB
  rw [num_lg, if_neg (by decide), hc, hn, if_pos rfl, Bool.false_or]
theorem old_work (dir : ByteArray) (k : Nat) : oldB dir k (workB dir) = true := by
  have hl : (workB dir).data.toList.getLast? = some 116 := by rw [work_data, List.getLast?_append]; rfl
  have hc : cutS (workB dir) = (workB dir, false) := cutS_not hl (by decide)
  have hn : (numB (workB dir) (dirL dir)).2 = false := by
    unfold numB
    rw [work_data, dirL_data]
    refine Snp.numAt_not fun h => ?_
    rw [List.prefix_append_right_inj] at h
    simp at h
  unfold oldB
  rw [num_work, if_neg (by decide), hc, hn, if_neg (by decide)]
  exact decide_eq_true rfl
theorem read_layBA (s : ByteArray) (h : s.size < 100000000000000000000) : readBA (layBA s) = (s, true) := by
  have h1 := Snp.read_lay s.data.toList (by rw [len_data]; exact h)
  have h2 : (layBA s).data.toList = Snp.layP s.data.toList := by simp [layBA]
  unfold readBA
  rw [h2, h1]
theorem layBA_size (s : ByteArray) (h : s.size ≤ 150000) : (layBA s).size ≤ s.size + 55 := by
  have h1 := Snp.lay_len s.data.toList (by rw [len_data]; omega)
  have h2 : (layBA s).data.toList = Snp.layP s.data.toList := by simp [layBA]
  rw [len_data] at h1
  rw [← len_data, h2]
  omega
/-! ### what is found -/
theorem findN_le (dir : ByteArray) (n : Nat) : ∀ (l : List ByteArray) (k : Nat), k ≤ n → (∀ f ∈ l, (numB f (dirS dir)).2 = true → (numB f (dirS dir)).1 ≤ n) → findN dir l k ≤ n
  | [], k, h, _ => h
  | f :: l, k, h, hl => by
    unfold findN
    refine findN_le dir n l _ ?_ (fun g hg => hl g (by simp [hg]))
    split
    · rename_i h1
      have := hl f (by simp) h1.1
      omega
    · exact h
theorem findN_mono (dir : ByteArray) : ∀ (l : List ByteArray) (k : Nat), k ≤ findN dir l k
  | [], k => Nat.le_refl _
  | f :: l, k => by
    unfold findN
    refine Nat.le_trans ?_ (findN_mono dir l _)
    split
    · rename_i h1
      omega
    · exact Nat.le_refl _
theorem findN_ge (dir : ByteArray) (n : Nat) : ∀ (l : List ByteArray) (k : Nat) (f : ByteArray), f ∈ l → numB f (dirS dir) = ((n : Int), true) → n ≤ findN dir l k
  | [], _, f, h, _ => by cases h
  | g :: l, k, f, h, hf => by
    unfold findN
    rcases List.mem_cons.1 h with rfl | h
    · rw [hf]
      refine Nat.le_trans ?_ (findN_mono dir l _)
      split
      · simp
      · rename_i h1
        simp at h1
        omega
    · exact findN_ge dir n l _ f h hf
end
end Go.Proofs.YtjhinifmdjlblaaGreat
namespace Go.Proofs.YtjhinifmdjlblaaGreat
open Go.RowKit Go.Maps Go.Sort
set_option maxRecDepth 100000

/-- A store's files: its log, and its picture, if there is one. -/
def qm (dir : ByteArray) (n : Nat) (base : ByteArray) (G : List (List ByteArray)) : Fm := fun s =>
  if s = lgB dir n then some (fileOf G, ((fileOf G).size : Int)) else if n ≠ 0 ∧ s = picB dir n then some (layBA base, ((layBA base).size : Int)) else none
section
variable {f : Bool} {st : Dk} {fs : DataW Unit} {m : Fm} {dir base state nm : ByteArray} {n : Nat} {G : List (List ByteArray)}
theorem qm_lg : qm dir n base G (lgB dir n) = some (fileOf G, ((fileOf G).size : Int)) := if_pos rfl
theorem qm_pic (h : n ≠ 0) : qm dir n base G (picB dir n) = some (layBA base, ((layBA base).size : Int)) := by
  unfold qm
  rw [if_neg pic_ne_lg, if_pos ⟨h, rfl⟩]
theorem qm_other {s : ByteArray} (h1 : s ≠ lgB dir n) (h2 : n = 0 ∨ s ≠ picB dir n) : qm dir n base G s = none := by
  unfold qm
  rw [if_neg h1, if_neg]
  rintro ⟨h3, h4⟩
  rcases h2 with h2 | h2
  · exact h3 h2
  · exact h2 h4
theorem qm_dom {s : ByteArray} {v : ByteArray × Int} (h : qm dir n base G s = some v) : s = lgB dir n ∨ (n ≠ 0 ∧ s = picB dir n) := by
  by_cases h1 : s = lgB dir n
  · exact .inl h1
  · right
    by_cases h2 : n ≠ 0 ∧ s = picB dir n
    · exact h2
    · unfold qm at h
      rw [if_neg h1, if_neg h2] at h
      cases h
theorem read_at (h : On1 st fs) (hF : Files fs m) {d : ByteArray} {k : Int} (hm : m nm = some (d, k)) : readD st nm = (d, 0) := by
  obtain ⟨h1, h2⟩ := hF.some_ _ _ hm
  unfold readD lacksD
  rw [if_pos h.on, h.fs_, h2, if_pos h1]
theorem read_absent (hon : st.on = true) (hfs : st.fs = fs) (hF : Files fs m) (hm : m nm = none) : readD st nm = (⟨#[]⟩, 7) := by
  have h1 := hF.none_ _ hm
  unfold readD lacksD
  rw [if_pos hon, hfs, fileAt_none h1, if_neg (by rw [h1]; decide)]
/-! ### a log opened among other files -/
theorem wopen_absent (h : Pow f st fs) (hF : Files fs m) (hm : m nm = none) (hv : validB nm = true) (hz : Maps.size fs < 40) :
    (∃ st', openD nm st = (0, st', some Wal.none_) ∧ Pow f st' (putF fs nm ⟨#[]⟩ 0)) ∨ (f = true ∧ ∃ st', openD nm st = (14, st', none) ∧ Dead st' fs) := by
  have hr := read_absent h.on h.fs_ hF hm
  rcases create_pow h hv (hF.none_ _ hm) hz with ⟨st', e, h'⟩ | ⟨hf, st', e, h'⟩
  · refine .inl ⟨st', ?_, h'⟩
    unfold openD
    rw [hr]
    simp only [e, if_true]
    rfl
  · refine .inr ⟨hf, st', ?_, h'⟩
    unfold openD
    rw [hr]
    simp only [e, if_true]
    rfl
theorem wopen_good (h : On1 st fs) (hF : Files fs m) {d : ByteArray} {k : Int} (hm : m nm = some (d, k)) (hg : (Wal.goodOf d.data.toList).size = d.size) : openD nm st = (0, st, some (Wal.goodOf d.data.toList)) := by
  unfold openD
  rw [read_at h hF hm, if_neg (show ¬ ((0 : Int) = 7) by decide)]
  simp only [if_true]
  rw [if_neg (by omega)]
theorem mend_files (h : On1 st fs) (hF : Files fs m) {d : ByteArray} {k : Int} (hm : m nm = some (d, k)) (hv : validB nm = true) (hv' : validB (spareOf nm) = true) (hsp : m (spareOf nm) = none) (hne : spareOf nm ≠ nm) {sz : Nat} (hsz : sz ≤ d.size) (hz : Maps.size fs < 40) (ht : totF fs + d.size ≤ 400000) :
    ∃ st' fs', firstD (mendD nm d sz) st = (0, st') ∧ On1 st' fs' ∧ Files fs' (m.set nm (some (d.extract 0 sz, (sz : Int)))) := by
  have hx : (d.extract 0 sz).size = sz := by rw [Sm.extract_size _ _ _ hsz]; omega
  have e1 : removeIf (spareOf nm) st = (0, st) := by unfold removeIf; rw [if_neg (by rw [h.fs_, hF.none_ _ hsp]; decide)]
  obtain ⟨s2, e2, h2⟩ := create_on1 h hv' (hF.none_ _ hsp) hz
  have F2 := hF.put (spareOf nm) ⟨#[]⟩ (n := 0) (by omega) (by omega)
  have m2 : (m.set (spareOf nm) (some ((⟨#[]⟩ : ByteArray), (0 : Int)))) (spareOf nm) = some (⟨#[]⟩, 0) := Fm.set_same _ _ _
  have a2 := F2.some_ _ _ m2
  have t2 : totF (putF fs (spareOf nm) ⟨#[]⟩ 0) ≤ totF fs := totF_put_le hF.good (spareOf nm) ⟨#[]⟩ 0
  obtain ⟨s3, e3, h3⟩ := append_on1 h2 (x := d.extract 0 sz) a2.1 (by omega)
  rw [a2.2] at h3
  have hemp : (⟨#[]⟩ : ByteArray) ++ d.extract 0 sz = d.extract 0 sz := of_data (by rw [Sm.data_append]; rfl)
  rw [hemp] at h3
  have F3 := F2.put (spareOf nm) (d.extract 0 sz) (n := 0) (by omega) (by omega)
  have a3 := F3.some_ _ _ (Fm.set_same _ _ _)
  obtain ⟨s4, e4, h4⟩ := sync_on1 h3 (s := spareOf nm) a3.1
  rw [a3.2] at h4
  have F4 := F3.put (spareOf nm) (d.extract 0 sz) (n := ((d.extract 0 sz).size : Nat)) (by omega) (Int.le_refl _)
  have a4 := F4.some_ _ _ (Fm.set_same _ _ _)
  obtain ⟨s5, e5, h5⟩ := rename_on1 h4 (s := spareOf nm) (t := nm) a4.1 hv
  rw [a4.2] at h5
  have F5 := (F4.del (spareOf nm)).put nm (d.extract 0 sz) (n := ((d.extract 0 sz).size : Nat)) (by omega) (Int.le_refl _)
  refine ⟨s5, _, ?_, h5, F5.congr fun s => ?_⟩
  · unfold mendD
    simp only [firstD, e1, e2, e3, e4, e5, if_true]
  · by_cases h6 : s = nm
    · subst h6
      rw [Fm.set_same, Fm.set_same, hx]
    · rw [Fm.set_other _ _ h6, Fm.set_other _ _ h6]
      by_cases h7 : s = spareOf nm
      · subst h7
        rw [Fm.set_same, hsp]
      · rw [Fm.set_other _ _ h7, Fm.set_other _ _ h7, Fm.set_other _ _ h7, Fm.set_other _ _ h7]
theorem wopen_mend (h : On1 st fs) (hF : Files fs m) {d : ByteArray} {k : Int} (hm : m nm = some (d, k)) (hv : validB nm = true) (hv' : validB (spareOf nm) = true) (hsp : m (spareOf nm) = none) (hne : spareOf nm ≠ nm) (hz : Maps.size fs < 40) (ht : totF fs + d.size ≤ 400000) (hg : (Wal.goodOf d.data.toList).size < d.size) :
    ∃ st' fs', openD nm st = (0, st', some (Wal.goodOf d.data.toList)) ∧ On1 st' fs' ∧ Files fs' (m.set nm (some (d.extract 0 (Wal.goodOf d.data.toList).size, ((Wal.goodOf d.data.toList).size : Int)))) := by
  obtain ⟨st', fs', e, h', hF'⟩ := mend_files h hF hm hv hv' hsp hne (sz := (Wal.goodOf d.data.toList).size) (by omega) hz ht
  refine ⟨st', fs', ?_, h', hF'⟩
  unfold openD
  rw [read_at h hF hm, if_neg (show ¬ ((0 : Int) = 7) by decide)]
  simp only [if_true]
  rw [if_pos hg, e]
  simp only [if_true]
/-! ### what is of another round goes -/
theorem clean_law (dir : ByteArray) (n : Nat) : ∀ (l : List ByteArray) {st : Dk} {fs : DataW Unit} {m : Fm}, On1 st fs → Files fs m → l.Nodup → (∀ s ∈ l, ∃ v, m s = some v) →
    ∃ st' fs' m', cleanD dir n l st = (0, st') ∧ On1 st' fs' ∧ Files fs' m' ∧ (∀ s, s ∈ l → oldB dir n s = true → m' s = none) ∧ ∀ s, ¬ (s ∈ l ∧ oldB dir n s = true) → m' s = m s
  | [], st, fs, m, h, hF, _, _ => ⟨st, fs, m, rfl, h, hF, fun s hs => by simp at hs, fun _ _ => rfl⟩
  | x :: l, st, fs, m, h, hF, hnd, hl => by
    obtain ⟨hx, hnd'⟩ := List.nodup_cons.1 hnd
    unfold cleanD
    by_cases ho : oldB dir n x = true
    · rw [if_pos ho]
      obtain ⟨v, hv⟩ := hl x (by simp)
      rcases remove_pow h.pow (s := x) (hF.some_ _ _ hv).1 with ⟨s1, e1, h1⟩ | ⟨hf, _⟩
      · rw [e1]
        simp only [if_true]
        obtain ⟨st', fs', m', e, h', hF', k1, k2⟩ := clean_law dir n l h1.on1 (hF.del x) hnd' fun s hs => by
          obtain ⟨u, hu⟩ := hl s (by simp [hs])
          exact ⟨u, by rw [Fm.set_other _ _ (fun e => hx (by rw [← e]; exact hs))]; exact hu⟩
        refine ⟨st', fs', m', e, h', hF', fun s hs hos => ?_, fun s hns => ?_⟩
        · rcases List.mem_cons.1 hs with rfl | hs
          · rw [k2 s (fun h => hx h.1), Fm.set_same]
          · exact k1 s hs hos
        · have hsx : s ≠ x := fun e => hns ⟨by simp [e], by rw [e]; exact ho⟩
          rw [k2 s (fun h => hns ⟨by simp [h.1], h.2⟩), Fm.set_other _ _ hsx]
      · cases hf
    · rw [if_neg ho]
      obtain ⟨st', fs', m', e, h', hF', k1, k2⟩ := clean_law dir n l h hF hnd' fun s hs => hl s (by simp [hs])
      refine ⟨st', fs', m', e, h', hF', fun s hs hos => ?_, fun s hns => k2 s (fun h => hns ⟨by simp [h.1], h.2⟩)⟩
      rcases List.mem_cons.1 hs with rfl | hs
      · exact absurd hos ho
      · exact k1 s hs hos
/-! ### Open -/
structure Names (dir : ByteArray) (n : Nat) : Prop where
  d0 : 0 < dir.size
  d1 : dir.size ≤ 20
  nn : n < 1000000000000
theorem Names.lg (h : Names dir n) : validB (lgB dir n) = true := by
  have h1 := lg_size dir (n := n) (by have := h.nn; omega)
  have h2 := h.d1
  unfold validB
  exact decide_eq_true ⟨by omega, by omega⟩
theorem Names.pic (h : Names dir n) : validB (picB dir n) = true := by
  have h1 := pic_size dir (n := n) (by have := h.nn; omega)
  have h2 := h.d1
  unfold validB
  exact decide_eq_true ⟨by omega, by omega⟩
theorem Names.work (h : Names dir n) : validB (workB dir) = true := by
  have h1 := work_size dir
  have h2 := h.d1
  unfold validB
  exact decide_eq_true ⟨by omega, by omega⟩
theorem Names.spare (h : Names dir n) : validB (spareOf (lgB dir n)) = true := by
  have h1 := lg_size dir (n := n) (by have := h.nn; omega)
  have h2 := h.d1
  have h3 : (spareOf (lgB dir n)).size = (lgB dir n).size + 1 := by unfold spareOf; rw [size_app']; rfl
  unfold validB
  exact decide_eq_true ⟨by omega, by omega⟩
/-- The files of a store that can be opened at a round: a picture, a log or what is good of it, and what is of other rounds. -/
structure Opn (dir : ByteArray) (n : Nat) (base : ByteArray) (G : List (List ByteArray)) (fs : DataW Unit) (m : Fm) : Prop where
  pic : n ≠ 0 → m (picB dir n) = some (layBA base, ((layBA base).size : Int))
  zero : n = 0 → base = ⟨#[]⟩
  bs : base.size ≤ 150000
  log : (m (lgB dir n) = none ∧ G = []) ∨ ∃ d k, m (lgB dir n) = some (d, k) ∧ lgOf (Wal.goodOf d.data.toList) false = logOf G false ∧ (Wal.goodOf d.data.toList).size = (fileOf G).size ∧ d.extract 0 (fileOf G).size = fileOf G ∧ ((fileOf G).size = d.size → k = d.size) ∧ ((fileOf G).size < d.size → totF fs + d.size ≤ 400000)
  other : ∀ s v, m s = some v → s = lgB dir n ∨ (n ≠ 0 ∧ s = picB dir n) ∨ (oldB dir n s = true ∧ s ≠ spareOf (lgB dir n) ∧ ((numB s (dirS dir)).2 = true → (numB s (dirS dir)).1 ≤ n))
  few : Maps.size fs < 40
theorem extract_whole (d : ByteArray) : d.extract 0 d.size = d := of_data (by rw [Sm.extract_data', List.drop_zero, Nat.sub_zero, List.take_of_length_le (by rw [len_data]; exact Nat.le_refl _)])
theorem found_n (hN : Names dir n) (hF : Files fs m) (ho : Opn dir n base G fs m) : findN dir (lstS fs) 0 = n := by
  have hn := hN.nn
  refine Nat.le_antisymm (findN_le dir n _ 0 (Nat.zero_le _) fun g hg hi => ?_) ?_
  · obtain ⟨v, hv⟩ := (hF.mem g).1 hg
    rcases ho.other g v hv with rfl | ⟨_, rfl⟩ | ⟨_, _, h3⟩
    · rw [num_lg] at hi; cases hi
    · rw [num_pic dir (by omega)]; exact Int.le_refl _
    · exact h3 hi
  · by_cases h0 : n = 0
    · omega
    · exact findN_ge dir n _ 0 (picB dir n) ((hF.mem _).2 ⟨_, ho.pic h0⟩) (num_pic dir (by omega))
theorem opens_law (hN : Names dir n) (h : On1 st fs) (hF : Files fs m) (ho : Opn dir n base G fs m) :
    ∃ st' fs' gs, openS dir st = (0, st', some ⟨n, base, gs⟩) ∧ lgOf gs false = logOf G false ∧ On1 st' fs' ∧ Files fs' (qm dir n base G) := by
  have hn := hN.nn
  have hfind : findN dir (lstS st.fs) 0 = n := by rw [h.fs_]; exact found_n hN hF ho
  have hbase : baseD dir n st = (0, base) := by
    unfold baseD
    by_cases h0 : n = 0
    · rw [if_pos h0, ho.zero h0]
    · rw [if_neg h0, read_at h hF (ho.pic h0), if_neg (by simp)]
      have := ho.bs
      rw [read_layBA base (by omega), if_pos rfl]
  have hlog : ∃ st1 fs1 gs, openD (lgB dir n) st = (0, st1, some gs) ∧ lgOf gs false = logOf G false ∧ On1 st1 fs1 ∧ Files fs1 (m.set (lgB dir n) (some (fileOf G, ((fileOf G).size : Int)))) := by
    rcases ho.log with ⟨hm, rfl⟩ | ⟨d, k, hm, h1, h2, h3, h4, h5⟩
    · rcases wopen_absent h.pow hF hm hN.lg ho.few with ⟨st', e, h'⟩ | ⟨hf, _⟩
      · exact ⟨st', _, _, e, rfl, h'.on1, hF.put (lgB dir n) ⟨#[]⟩ (n := 0) (by omega) (by omega)⟩
      · cases hf
    · have hle := Wal.goodOf_size d.data.toList
      rw [len_data, h2] at hle
      rcases Nat.lt_or_ge (fileOf G).size d.size with hlt | hge
      · obtain ⟨st', fs', e, h', hF'⟩ := wopen_mend h hF hm hN.lg hN.spare (by
          cases hs : m (spareOf (lgB dir n)) with
          | none => rfl
          | some v =>
            rcases ho.other _ v hs with h6 | ⟨_, h6⟩ | ⟨_, h6, _⟩
            · exact absurd h6 (spare_ne_lg (by omega) _)
            · exact absurd h6 (spare_ne_pic (by omega) _)
            · exact absurd rfl h6) (spare_ne_lg (by omega) _) ho.few (h5 hlt) (by omega)
        rw [h2, h3] at hF'
        exact ⟨st', fs', _, e, h1, h', hF'⟩
      · have he : (fileOf G).size = d.size := by omega
        refine ⟨st, fs, _, wopen_good h hF hm (by omega), h1, h, hF.congr fun s => ?_⟩
        by_cases hs : s = lgB dir n
        · subst hs
          rw [Fm.set_same, hm]
          rw [he, extract_whole] at h3
          rw [h4 he, h3]
        · rw [Fm.set_other _ _ hs]
  obtain ⟨st1, fs1, gs, e1, hgs, h1, hF1⟩ := hlog
  obtain ⟨st2, fs2, m2, e2, h2, hF2, k1, k2⟩ := clean_law dir n (lstS fs1) h1 hF1 (lst_nodup hF1.good) fun s hs => (hF1.mem s).1 hs
  refine ⟨st2, fs2, gs, ?_, hgs, h2, hF2.congr fun s => ?_⟩
  · unfold openS
    rw [hfind, hbase]
    simp only [if_true]
    unfold openAt
    simp only [e1, h1.fs_, e2, if_true]
  · by_cases hs : s = lgB dir n
    · subst hs
      rw [qm_lg, k2, Fm.set_same]
      rintro ⟨_, h3⟩
      rw [old_lg dir n (by omega)] at h3
      simp at h3
    · by_cases hp : n ≠ 0 ∧ s = picB dir n
      · obtain ⟨h0, rfl⟩ := hp
        rw [qm_pic h0, k2, Fm.set_other _ _ hs, ho.pic h0]
        rintro ⟨_, h3⟩
        rw [old_pic dir n (by omega)] at h3
        simp at h3
        omega
      · rw [qm_other hs (by
          by_cases h0 : n = 0
          · exact .inl h0
          · exact .inr fun e => hp ⟨h0, e⟩)]
        cases hm : m s with
        | none =>
          by_cases h4 : s ∈ lstS fs1 ∧ oldB dir n s = true
          · exact k1 s h4.1 h4.2
          · rw [k2 s h4, Fm.set_other _ _ hs, hm]
        | some v =>
          rcases ho.other s v hm with h3 | h3 | ⟨h3, _⟩
          · exact absurd h3 hs
          · exact absurd h3 hp
          · exact k1 s ((hF1.mem s).2 ⟨v, by rw [Fm.set_other _ _ hs]; exact hm⟩) h3
/-! ### a new round -/
/-- Half made: the old round with a picture under way. -/
def CrA (dir : ByteArray) (n : Nat) (base : ByteArray) (G : List (List ByteArray)) (fs : DataW Unit) : Prop :=
  ∃ v, Files fs ((qm dir n base G).set (workB dir) v) ∧ ∀ x k, v = some (x, k) → x.size ≤ 150055
/-- Half made: the new round, with the old one's files not all gone. -/
def CrB (dir : ByteArray) (n : Nat) (_base : ByteArray) (_G : List (List ByteArray)) (state : ByteArray) (fs : DataW Unit) : Prop :=
  ∃ m, Files fs m ∧ m (picB dir (n + 1)) = some (layBA state, ((layBA state).size : Int)) ∧ (m (lgB dir (n + 1)) = none ∨ m (lgB dir (n + 1)) = some (⟨#[]⟩, 0)) ∧ ∀ s v, m s = some v → s = picB dir (n + 1) ∨ s = lgB dir (n + 1) ∨ s = picB dir n ∧ n ≠ 0 ∨ s = lgB dir n
theorem tot_qm (hF : Files fs (qm dir n base G)) (hb : base.size ≤ 150000) : totF fs ≤ (fileOf G).size + 150055 := by
  have h := hF.tot [lgB dir n, picB dir n] fun s v hv => by
    rcases qm_dom hv with rfl | ⟨_, rfl⟩ <;> simp
  simp only [List.map_cons, List.map_nil, List.sum_cons, List.sum_nil, qm_lg] at h
  have h2 := layBA_size base hb
  by_cases h0 : n = 0
  · rw [qm_other (s := picB dir n) pic_ne_lg (.inl h0)] at h
    simp only [szOf] at h
    omega
  · rw [qm_pic h0] at h
    simp only [szOf] at h
    omega
theorem next_law (hN : Names dir (n + 1)) (h : Pow f st fs) (hF : Files fs (qm dir n base G)) (hb : base.size ≤ 150000) (hs : state.size ≤ 150000) (hG : (fileOf G).size ≤ 90000) :
    (∃ st' fs', nextD dir n state st = (0, st', some Wal.none_) ∧ Pow f st' fs' ∧ Files fs' (qm dir (n + 1) state [])) ∨
    (f = true ∧ ∃ st' fs', nextD dir n state st = (14, st', none) ∧ Dead st' fs' ∧ (CrA dir n base G fs' ∨ CrB dir n base G state fs')) := by
  have hnn := hN.nn
  have hlay := layBA_size state hs
  have htot := tot_qm hF hb
  have hdom : ∀ s v, qm dir n base G s = some v → s ∈ [lgB dir n, picB dir n] := fun s v hv => by
    rcases qm_dom hv with rfl | ⟨_, rfl⟩ <;> simp
  have hfew := hF.few _ hdom
  simp only [List.length_cons, List.length_nil] at hfew
  have hw0 : qm dir n base G (workB dir) = none := qm_other (fun e => lg_ne_work e.symm) (.inr fun e => pic_ne_work e.symm)
  have e0 : removeIf (workB dir) st = (0, st) := by unfold removeIf; rw [if_neg (by rw [h.fs_, hF.none_ _ hw0]; decide)]
  have dead0 : CrA dir n base G fs := ⟨none, hF.congr fun s => by
    by_cases e : s = workB dir
    · subst e; rw [Fm.set_same, hw0]
    · rw [Fm.set_other _ _ e], fun x k e => by cases e⟩
  rcases create_pow h hN.work (hF.none_ _ hw0) (by omega) with ⟨s1, e1, h1⟩ | ⟨hf, s1, e1, h1⟩
  rotate_left
  · exact .inr ⟨hf, s1, fs, by simp [nextD, runFrom, stepAt, e0, e1], h1, .inl dead0⟩
  have F1 := hF.put (workB dir) ⟨#[]⟩ (n := 0) (by omega) (by omega)
  have a1 := F1.some_ _ _ (Fm.set_same _ _ _)
  have t1 : totF (putF fs (workB dir) ⟨#[]⟩ 0) ≤ totF fs := totF_put_le hF.good (workB dir) ⟨#[]⟩ 0
  have hemp : (⟨#[]⟩ : ByteArray) ++ layBA state = layBA state := of_data (by rw [Sm.data_append]; rfl)
  have F2 := F1.put (workB dir) (layBA state) (n := 0) (by omega) (by omega)
  have dead2 : CrA dir n base G (putF (putF fs (workB dir) ⟨#[]⟩ 0) (workB dir) (layBA state) 0) := ⟨some (layBA state, 0), F2.congr fun s => by
    by_cases e : s = workB dir
    · subst e; rw [Fm.set_same, Fm.set_same]
    · rw [Fm.set_other _ _ e, Fm.set_other _ _ e, Fm.set_other _ _ e], fun x k e => by injection e with e; injection e with e1 e2; subst e1; omega⟩
  have hap := append_pow h1 (x := layBA state) a1.1 (by omega)
  rw [a1.2, hemp] at hap
  rcases hap with ⟨s2, e2, h2⟩ | ⟨hf, s2, e2, h2⟩
  rotate_left
  · exact .inr ⟨hf, s2, _, by simp [nextD, runFrom, stepAt, e0, e1, e2], h2, .inl dead2⟩
  have a2 := F2.some_ _ _ (Fm.set_same _ _ _)
  have hsy := sync_pow h2 a2.1
  rw [a2.2] at hsy
  rcases hsy with ⟨s3, e3, h3⟩ | ⟨hf, s3, e3, h3⟩
  rotate_left
  · exact .inr ⟨hf, s3, _, by simp [nextD, runFrom, stepAt, e0, e1, e2, e3], h3, .inl dead2⟩
  have F3 := F2.put (workB dir) (layBA state) (n := ((layBA state).size : Nat)) (by omega) (Int.le_refl _)
  have a3 := F3.some_ _ _ (Fm.set_same _ _ _)
  have hrn := rename_pow h3 (t := picB dir (n + 1)) a3.1 hN.pic
  rw [a3.2] at hrn
  have dead3 : CrA dir n base G (putF (putF (putF fs (workB dir) ⟨#[]⟩ 0) (workB dir) (layBA state) 0) (workB dir) (layBA state) ((layBA state).size : Nat)) := ⟨some (layBA state, ((layBA state).size : Int)), F3.congr fun s => by
    by_cases e : s = workB dir
    · subst e; rw [Fm.set_same, Fm.set_same]
    · rw [Fm.set_other _ _ e, Fm.set_other _ _ e, Fm.set_other _ _ e, Fm.set_other _ _ e], fun x k e => by injection e with e; injection e with e1 e2; subst e1; omega⟩
  rcases hrn with ⟨s4, e4, h4⟩ | ⟨hf, s4, e4, h4⟩
  rotate_left
  · exact .inr ⟨hf, s4, _, by simp [nextD, runFrom, stepAt, e0, e1, e2, e3, e4], h4, .inl dead3⟩
  -- the new picture is there
  have hpl : picB dir (n + 1) ≠ picB dir n := fun e => by have := pic_inj (by omega) (by omega) e; omega
  have hll : lgB dir (n + 1) ≠ lgB dir n := fun e => by have := lg_inj (by omega) (by omega) e; omega
  have F4' := (F3.del (workB dir)).put (picB dir (n + 1)) (layBA state) (n := ((layBA state).size : Nat)) (by omega) (Int.le_refl _)
  have F4 : Files _ ((qm dir n base G).set (picB dir (n + 1)) (some (layBA state, ((layBA state).size : Int)))) := F4'.congr fun s => by
    by_cases e : s = picB dir (n + 1)
    · subst e; rw [Fm.set_same, Fm.set_same]
    · rw [Fm.set_other _ _ e, Fm.set_other _ _ e]
      by_cases e' : s = workB dir
      · subst e'; rw [Fm.set_same, hw0]
      · rw [Fm.set_other _ _ e', Fm.set_other _ _ e', Fm.set_other _ _ e', Fm.set_other _ _ e']
  obtain ⟨fs4, hfs4⟩ : ∃ x, putF (delF (putF (putF (putF fs (workB dir) ⟨#[]⟩ 0) (workB dir) (layBA state) 0) (workB dir) (layBA state) ((layBA state).size : Nat)) (workB dir)) (picB dir (n + 1)) (layBA state) ((layBA state).size : Nat) = x := ⟨_, rfl⟩
  rw [hfs4] at h4 F4
  have hlg4 : ((qm dir n base G).set (picB dir (n + 1)) (some (layBA state, ((layBA state).size : Int)))) (lgB dir (n + 1)) = none := by
    rw [Fm.set_other _ _ (fun e => pic_ne_lg e.symm)]
    exact qm_other hll (.inr fun e => pic_ne_lg e.symm)
  have dom4 : ∀ s v, ((qm dir n base G).set (picB dir (n + 1)) (some (layBA state, ((layBA state).size : Int)))) s = some v → s = picB dir (n + 1) ∨ s = lgB dir n ∨ (n ≠ 0 ∧ s = picB dir n) := fun s v hv => by
    by_cases e : s = picB dir (n + 1)
    · exact .inl e
    · rw [Fm.set_other _ _ e] at hv
      exact .inr (qm_dom hv)
  have few4 := F4.few [picB dir (n + 1), lgB dir n, picB dir n] fun s v hv => by rcases dom4 s v hv with rfl | rfl | ⟨_, rfl⟩ <;> simp
  simp only [List.length_cons, List.length_nil] at few4
  have dead4 : CrB dir n base G state fs4 := ⟨_, F4, Fm.set_same _ _ _, .inl hlg4, fun s v hv => by rcases dom4 s v hv with h | h | ⟨h, h'⟩ <;> simp [*]⟩
  rcases wopen_absent h4 F4 hlg4 hN.lg (by omega) with ⟨s5, e5, h5⟩ | ⟨hf, s5, e5, h5⟩
  rotate_left
  · exact .inr ⟨hf, s5, _, by simp [nextD, runFrom, stepAt, e0, e1, e2, e3, e4, e5], h5, .inr dead4⟩
  have F5 := F4.put (lgB dir (n + 1)) ⟨#[]⟩ (n := 0) (by omega) (by omega)
  have dead5 : CrB dir n base G state (putF fs4 (lgB dir (n + 1)) ⟨#[]⟩ 0) := ⟨_, F5, by rw [Fm.set_other _ _ pic_ne_lg, Fm.set_same], .inr (Fm.set_same _ _ _), fun s v hv => by
    by_cases e : s = lgB dir (n + 1)
    · exact .inr (.inl e)
    · rw [Fm.set_other _ _ e] at hv
      rcases dom4 s v hv with h | h | ⟨h, h'⟩ <;> simp [*]⟩
  -- the old picture goes
  have hrm6 : (∃ s6 fs6, removeIf (picB dir n) s5 = (0, s6) ∧ Pow f s6 fs6 ∧ Files fs6 ((((qm dir n base G).set (picB dir (n + 1)) (some (layBA state, ((layBA state).size : Int)))).set (lgB dir (n + 1)) (some (⟨#[]⟩, 0))).set (picB dir n) none)) ∨ (f = true ∧ ∃ s6, removeIf (picB dir n) s5 = (14, s6) ∧ Dead s6 (putF fs4 (lgB dir (n + 1)) ⟨#[]⟩ 0)) := by
    unfold removeIf
    rw [h5.fs_]
    by_cases h0 : hasS (putF fs4 (lgB dir (n + 1)) ⟨#[]⟩ 0) (picB dir n) = true
    · rw [if_pos h0]
      rcases remove_pow h5 h0 with ⟨s6, e6, h6⟩ | ⟨hf, s6, e6, h6⟩
      · exact .inl ⟨s6, _, e6, h6, F5.del _⟩
      · exact .inr ⟨hf, s6, e6, h6⟩
    · rw [if_neg h0]
      refine .inl ⟨s5, _, rfl, h5, F5.congr fun s => ?_⟩
      by_cases e : s = picB dir n
      · subst e
        rw [Fm.set_same]
        have := F5.has (picB dir n)
        cases hm : (((qm dir n base G).set (picB dir (n + 1)) (some (layBA state, ((layBA state).size : Int)))).set (lgB dir (n + 1)) (some (⟨#[]⟩, 0))) (picB dir n) with
        | none => rfl
        | some v => rw [hm] at this; exact absurd this h0
      · rw [Fm.set_other _ _ e]
  rcases hrm6 with ⟨s6, fs6, e6, h6, F6⟩ | ⟨hf, s6, e6, h6⟩
  rotate_left
  · exact .inr ⟨hf, s6, _, by simp [nextD, runFrom, stepAt, e0, e1, e2, e3, e4, e5, e6], h6, .inr dead5⟩
  have dead6 : CrB dir n base G state fs6 := ⟨_, F6, by rw [Fm.set_other _ _ hpl, Fm.set_other _ _ pic_ne_lg, Fm.set_same], .inr (by rw [Fm.set_other _ _ (fun e => pic_ne_lg e.symm), Fm.set_same]), fun s v hv => by
    by_cases e' : s = picB dir n
    · subst e'; rw [Fm.set_same] at hv; cases hv
    · rw [Fm.set_other _ _ e'] at hv
      by_cases e : s = lgB dir (n + 1)
      · exact .inr (.inl e)
      · rw [Fm.set_other _ _ e] at hv
        rcases dom4 s v hv with h | h | ⟨h, h'⟩ <;> simp [*]⟩
  -- the old log goes
  have hl6 : ((((qm dir n base G).set (picB dir (n + 1)) (some (layBA state, ((layBA state).size : Int)))).set (lgB dir (n + 1)) (some (⟨#[]⟩, 0))).set (picB dir n) none) (lgB dir n) = some (fileOf G, ((fileOf G).size : Int)) := by
    rw [Fm.set_other _ _ (fun e => pic_ne_lg e.symm), Fm.set_other _ _ (fun e => hll e.symm), Fm.set_other _ _ (fun e => pic_ne_lg e.symm), qm_lg]
  have a6 := F6.some_ _ _ hl6
  rcases remove_pow h6 a6.1 with ⟨s7, e7, h7⟩ | ⟨hf, s7, e7, h7⟩
  · have e7' : removeIf (lgB dir n) s6 = (0, s7) := by unfold removeIf; rw [h6.fs_, if_pos a6.1, e7]
    refine .inl ⟨s7, _, by simp [nextD, runFrom, stepAt, e0, e1, e2, e3, e4, e5, e6, e7'], h7, (F6.del (lgB dir n)).congr fun s => ?_⟩
    by_cases k1 : s = lgB dir n
    · subst k1
      rw [Fm.set_same, qm_other (fun e => hll e.symm) (.inr fun e => pic_ne_lg e.symm)]
    · rw [Fm.set_other _ _ k1]
      by_cases k2 : s = picB dir n
      · subst k2
        rw [Fm.set_same, qm_other pic_ne_lg (.inr fun e => hpl e.symm)]
      · rw [Fm.set_other _ _ k2]
        by_cases k3 : s = lgB dir (n + 1)
        · subst k3
          rw [Fm.set_same, qm_lg]
          rfl
        · rw [Fm.set_other _ _ k3]
          by_cases k4 : s = picB dir (n + 1)
          · subst k4
            rw [Fm.set_same, qm_pic (by omega)]
          · rw [Fm.set_other _ _ k4, qm_other k1 (.inr k2), qm_other k3 (.inr k4)]
  · have e7' : removeIf (lgB dir n) s6 = (14, s7) := by unfold removeIf; rw [h6.fs_, if_pos a6.1, e7]
    exact .inr ⟨hf, s7, _, by simp [nextD, runFrom, stepAt, e0, e1, e2, e3, e4, e5, e6, e7'], h7, .inr dead6⟩
end
end Go.Proofs.YtjhinifmdjlblaaGreat
