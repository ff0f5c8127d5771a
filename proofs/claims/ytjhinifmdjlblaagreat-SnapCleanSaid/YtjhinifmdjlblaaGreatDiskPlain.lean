/-
  Files by their names, in plain words: what stands at a name, how many bytes all have.
  Conditions: as each lemma says.
-/
import Derived.Maps.RangeWalk
import Derived.Test.YtjhinifmdjlblaaGreatNamePlain
namespace Go.Proofs.YtjhinifmdjlblaaGreat
open Go.RowKit Go.Maps Go.Sort

def fileD (x : ByteArray) (n : Int) : DataW Unit := .agg [.lit (.string x.data.toList), .lit (.int .i64 n)]
def unfile : DataW Unit → ByteArray × Int
  | .agg [.lit (.string l), .lit (.int _ n)] => (⟨l.toArray⟩, n)
  | _ => (⟨#[]⟩, 0)
theorem unfile_mk (x : ByteArray) (n : Int) : unfile (fileD x n) = (x, n) := by
  obtain ⟨⟨l⟩⟩ := x
  rfl
def fileAt (D : DataW Unit) (s : ByteArray) : ByteArray × Int := unfile (D.atKey (kS s) (fileD ⟨#[]⟩ 0))
def putF (D : DataW Unit) (s x : ByteArray) (n : Int) : DataW Unit := D.put (kS s) (fileD x n)
def delF (D : DataW Unit) (s : ByteArray) : DataW Unit := D.del (kS s)
/-- A map from texts to files; no file has more bytes synced than it has. -/
def GoodF (D : DataW Unit) : Prop := Tidy D ∧ ∃ es, D = .map es ∧ ∀ p ∈ es, ∃ s x n, p.1 = kS s ∧ p.2 = fileD x n ∧ 0 ≤ n ∧ n ≤ (x.size : Int)
section
variable {D : DataW Unit}
theorem goodF_none : GoodF (.map []) := ⟨tidy_empty, [], rfl, by simp⟩
theorem GoodF.put (h : GoodF D) (s x : ByteArray) {n : Int} (h0 : 0 ≤ n) (h1 : n ≤ (x.size : Int)) : GoodF (putF D s x n) := by
  obtain ⟨ht, es, rfl, hk⟩ := h
  refine ⟨ht.put (kS_key s) _, _, rfl, fun p hp => ?_⟩
  rcases mem_insert hp with h | h
  · exact ⟨s, x, n, by rw [h], by rw [h], h0, h1⟩
  · exact hk p ((List.mem_filter.1 h).1)
theorem GoodF.del (h : GoodF D) (s : ByteArray) : GoodF (delF D s) := by
  obtain ⟨ht, es, rfl, hk⟩ := h
  exact ⟨ht.del _, _, rfl, fun p hp => hk p ((List.mem_filter.1 hp).1)⟩
theorem GoodF.isMap (h : GoodF D) : IsMap D := h.1.isMap
theorem hasF_put (h : GoodF D) (a x : ByteArray) (n : Int) (s : ByteArray) : hasS (putF D a x n) s = true ↔ s = a ∨ hasS D s = true := by
  unfold hasS putF
  by_cases e : s = a
  · subst e
    simp [has_put_same h.isMap (kS_key s)]
  · rw [has_put_other (fun e' => e (kS_inj e'))]
    simp [e]
theorem hasF_del (a s : ByteArray) : hasS (delF D a) s = true ↔ s ≠ a ∧ hasS D s = true := hasS_del a s
theorem fileAt_put_same (h : GoodF D) (s x : ByteArray) (n : Int) : fileAt (putF D s x n) s = (x, n) := by
  unfold fileAt putF
  rw [atKey_put_same h.isMap (kS_key s), unfile_mk]
theorem fileAt_put_other {s a : ByteArray} (hne : s ≠ a) (x : ByteArray) (n : Int) : fileAt (putF D a x n) s = fileAt D s := by
  unfold fileAt putF
  rw [atKey_put_other (fun e => hne (kS_inj e))]
theorem fileAt_del_other {s a : ByteArray} (hne : s ≠ a) : fileAt (delF D a) s = fileAt D s := by
  unfold fileAt delF
  rw [atKey_del_other (fun e => hne (kS_inj e))]
theorem fileAt_none {s : ByteArray} (h : hasS D s = false) : fileAt D s = (⟨#[]⟩, 0) := by
  unfold fileAt
  rw [atKey_of_not_has h, unfile_mk]
theorem fileAt_form (h : GoodF D) (s : ByteArray) : D.atKey (kS s) (fileD ⟨#[]⟩ 0) = fileD (fileAt D s).1 (fileAt D s).2 ∧ 0 ≤ (fileAt D s).2 ∧ (fileAt D s).2 ≤ ((fileAt D s).1.size : Int) := by
  obtain ⟨_, es, rfl, hk⟩ := h
  unfold fileAt
  cases hf : es.find? (fun p => p.1.sameKey (kS s)) with
  | none =>
    have e : DataW.atKey (.map es) (kS s) (fileD ⟨#[]⟩ 0) = fileD ⟨#[]⟩ 0 := by simp only [DataW.atKey, hf]
    rw [e, unfile_mk]
    exact ⟨rfl, Int.le_refl _, Int.le_refl _⟩
  | some p =>
    have e : DataW.atKey (.map es) (kS s) (fileD ⟨#[]⟩ 0) = p.2 := by simp only [DataW.atKey, hf]
    obtain ⟨_, x, n, _, h2, h3, h4⟩ := hk p (List.mem_of_find?_eq_some hf)
    rw [e, h2, unfile_mk]
    exact ⟨rfl, h3, h4⟩

def sizeE (p : Lit × DataW Unit) : Nat := (unfile p.2).1.size
def totF : DataW Unit → Nat
  | .map es => (es.map sizeE).sum
  | _ => 0
theorem tot_insert (x : Lit × DataW Unit) : ∀ es : List (Lit × DataW Unit), ((DataW.insert x es).map sizeE).sum = (es.map sizeE).sum + sizeE x
  | [] => by simp [DataW.insert]
  | y :: r => by
    unfold DataW.insert
    split
    · simp only [List.map_cons, List.sum_cons]; omega
    · simp only [List.map_cons, List.sum_cons, tot_insert x r]; omega
theorem tot_strike {k : Lit} : ∀ es : List (Lit × DataW Unit), es.Pairwise (fun p q => p.1 ≠ q.1) →
    (es.map sizeE).sum = ((es.filter fun p => !p.1.sameKey k).map sizeE).sum + (unfile (DataW.atKey (.map es) k (fileD ⟨#[]⟩ 0))).1.size
  | [], _ => by simp [DataW.atKey, unfile_mk, ByteArray.size]
  | q :: r, hp => by
    obtain ⟨h1, h2⟩ := List.pairwise_cons.1 hp
    cases hq : q.1.sameKey k
    · have e : DataW.atKey (.map (q :: r)) k (fileD ⟨#[]⟩ 0) = DataW.atKey (.map r) k (fileD ⟨#[]⟩ 0) := by simp only [DataW.atKey, List.find?_cons, hq]
      have e2 : (q :: r).filter (fun p => !p.1.sameKey k) = q :: r.filter (fun p => !p.1.sameKey k) := by rw [List.filter_cons, hq]; rfl
      rw [e, e2]
      simp only [List.map_cons, List.sum_cons]
      rw [tot_strike (k := k) r h2]
      omega
    · have hr : r.filter (fun p => !p.1.sameKey k) = r := by
        refine List.filter_eq_self.2 fun p hpr => ?_
        rw [sameKey_ne (fun e => h1 p hpr ((WideAt.sameKey_eq hq).trans e.symm))]
        rfl
      have e : DataW.atKey (.map (q :: r)) k (fileD ⟨#[]⟩ 0) = q.2 := by simp only [DataW.atKey, List.find?_cons, hq]
      have e2 : (q :: r).filter (fun p => !p.1.sameKey k) = r := by rw [List.filter_cons, hq]; simpa using hr
      rw [e, e2]
      simp only [List.map_cons, List.sum_cons, sizeE]
      omega
theorem totF_del (h : GoodF D) (s : ByteArray) : totF D = totF (delF D s) + (fileAt D s).1.size := by
  obtain ⟨⟨_, rfl, hp⟩, _⟩ := h
  exact tot_strike _ hp
theorem totF_put (h : GoodF D) (s x : ByteArray) (n : Int) : totF (putF D s x n) = totF (delF D s) + x.size := by
  obtain ⟨⟨es, rfl, hp⟩, _⟩ := h
  show ((DataW.insert (kS s, fileD x n) _).map sizeE).sum = _
  rw [tot_insert]
  unfold sizeE
  rw [unfile_mk]
  rfl
theorem fileAt_le (h : GoodF D) (s : ByteArray) : (fileAt D s).1.size ≤ totF D := by have := totF_del h s; omega
theorem totF_put_le (h : GoodF D) (s x : ByteArray) (n : Int) : totF (putF D s x n) ≤ totF D + x.size := by have := totF_del h s; have := totF_put h s x n; omega
theorem totF_del_le (h : GoodF D) (s : ByteArray) : totF (delF D s) ≤ totF D := by have := totF_del h s; omega

/-- The bytes of the files that a round over the map has passed. -/
def leftTot (left : Lit → Bool) : DataW Unit → Nat
  | .map es => ((es.filter fun p => !left p.1).map sizeE).sum
  | _ => 0
theorem leftTot_start (h : GoodF D) : leftTot (Maps.has D) D = 0 := by
  obtain ⟨_, es, rfl, hk⟩ := h
  have e : es.filter (fun p => !Maps.has (.map es : DataW Unit) p.1) = [] := by
    refine List.filter_eq_nil_iff.2 fun p hp => ?_
    rw [has_eq]
    obtain ⟨s, _, _, h1, _⟩ := hk p hp
    have : es.any (fun q => q.1.sameKey p.1) = true := List.any_eq_true.2 ⟨p, hp, by rw [h1]; simp [kS, Lit.sameKey]⟩
    rw [this]
    decide
  show ((es.filter fun p => !Maps.has (.map es : DataW Unit) p.1).map sizeE).sum = 0
  rw [e]
  rfl
theorem leftTot_end {left : Lit → Bool} (h : GoodF D) (hl : ∀ k, left k = false) : leftTot left D = totF D := by
  obtain ⟨_, es, rfl, hk⟩ := h
  show ((es.filter fun p => !left p.1).map sizeE).sum = (es.map sizeE).sum
  rw [List.filter_eq_self.2 (fun p _ => by rw [hl]; rfl)]
theorem left_strike {left : Lit → Bool} {kl : Lit} (hl : left kl = true) : ∀ es : List (Lit × DataW Unit), es.Pairwise (fun p q => p.1 ≠ q.1) → ∀ p ∈ es, p.1 = kl → kl.sameKey kl = true →
    ((es.filter fun q => !(left q.1 && !q.1.sameKey kl)).map sizeE).sum = ((es.filter fun q => !left q.1).map sizeE).sum + sizeE p
  | [], _, p, hp, _, _ => by cases hp
  | q :: r, hq, p, hp, he, hs => by
    obtain ⟨h1, h2⟩ := List.pairwise_cons.1 hq
    rcases List.mem_cons.1 hp with rfl | hr
    · have e1 : r.filter (fun q => !(left q.1 && !q.1.sameKey kl)) = r.filter (fun q => !left q.1) := by
        refine List.filter_congr fun x hx => ?_
        rw [sameKey_ne (fun e => h1 x hx (he.trans e.symm))]
        simp
      have e2 : (p :: r).filter (fun q => !(left q.1 && !q.1.sameKey kl)) = p :: r.filter (fun q => !left q.1) := by
        rw [List.filter_cons, e1, he, hs]
        simp
      have e3 : (p :: r).filter (fun q => !left q.1) = r.filter (fun q => !left q.1) := by
        rw [List.filter_cons, he, hl]
        simp
      rw [e2, e3]
      simp only [List.map_cons, List.sum_cons]
      omega
    · have hne : q.1 ≠ kl := fun e => h1 p hr (e.trans he.symm)
      have ih := left_strike hl r h2 p hr he hs
      have e0 : (!(left q.1 && !q.1.sameKey kl)) = !left q.1 := by rw [sameKey_ne hne]; simp
      rw [List.filter_cons, List.filter_cons, e0]
      cases left q.1
      · simp only [Bool.not_false, if_true, List.map_cons, List.sum_cons]
        omega
      · simpa using ih
theorem leftTot_step (h : GoodF D) {left : Lit → Bool} {kl : Lit} {y : DataW Unit} (hl : left kl = true) (hat : ∀ zd, D.atKey kl zd = y) : leftTot (fun z => left z && !z.sameKey kl) D = leftTot left D + (unfile y).1.size := by
  have hh := has_true_of_atKey hat
  obtain ⟨⟨es, rfl, hp⟩, es', e, hk⟩ := h
  injection e with e
  subst e
  rw [has_eq, List.any_eq_true] at hh
  obtain ⟨p, hpm, hps⟩ := hh
  have hpe := WideAt.sameKey_eq hps
  obtain ⟨s, x, n, h1, h2, _⟩ := hk p hpm
  have hself : kl.sameKey kl = true := by rw [← hpe, h1]; simp [kS, Lit.sameKey]
  have hy : y = p.2 := by
    have h3 := hat (fileD ⟨#[]⟩ 0)
    have hf : (es.find? fun q => q.1.sameKey kl) = some p := by
      rw [List.find?_eq_some_iff_append]
      obtain ⟨a, b, rfl⟩ := List.append_of_mem hpm
      refine ⟨hps, a, b, rfl, fun q hq => ?_⟩
      have : q.1 ≠ p.1 := (List.pairwise_append.1 hp).2.2 q hq p (by simp)
      rw [sameKey_ne (fun e => this (e.trans hpe.symm))]
      rfl
    simp only [DataW.atKey, hf] at h3
    exact h3.symm
  rw [hy]
  exact left_strike hl es hp p hpm hpe hself
end

theorem sizeF_put {D : DataW Unit} (h : GoodF D) (s x : ByteArray) (n : Int) : Maps.size (putF D s x n) = if hasS D s then Maps.size D else Maps.size D + 1 := size_put h.1 _
theorem sizeF_del {D : DataW Unit} (h : GoodF D) (s : ByteArray) : Maps.size (delF D s) + (if hasS D s then 1 else 0) = Maps.size D := size_del h.1
/-- How a file reads. -/
def fileE : Value → Option (DataW Unit × List MemPlace)
  | .agg ⟨[.string s, .int .i64 n]⟩ => some (fileD s n, [])
  | _ => none
theorem fileE_mk (s : ByteArray) (n : Int) : fileE (.agg #[.string s, .int .i64 n]) = some (fileD s n, []) := rfl
theorem fileD_inj {x y : ByteArray} {m n : Int} (h : fileD x m = fileD y n) : x = y ∧ m = n := by
  have := congrArg unfile h
  rw [unfile_mk, unfile_mk] at this
  exact ⟨congrArg (·.1) this, congrArg (·.2) this⟩
theorem fileE_inv {v : Value} {z : DataW Unit × List MemPlace} (h : fileE v = some z) : ∃ s n, v = .agg #[.string s, .int .i64 n] ∧ z = (fileD s n, []) := by
  unfold fileE at h
  split at h
  · injection h with h
    exact ⟨_, _, rfl, h.symm⟩
  · cases h
end Go.Proofs.YtjhinifmdjlblaaGreat
