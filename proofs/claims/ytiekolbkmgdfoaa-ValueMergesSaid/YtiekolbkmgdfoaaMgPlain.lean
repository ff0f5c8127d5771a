/-
  Pledges merged, in plain words: of each asset the sum, in the names' order; merging in pieces is merging at once; the map of lists.
  Conditions: none beyond each lemma's own premises.
-/
import Derived.Test.YtiekolbkmgdfoaaNamePlain
import Derived.Maps.OwnRows
namespace Go.Proofs.Ytiekolbkmgdfoaa
open Go.RowKit Go.Maps Go.Sort

def srt (l : List ByteArray) : List ByteArray := lstS (setS l)
theorem mem_lstS {D : DataW Unit} (h : GoodS D) (s : ByteArray) : s ∈ lstS D ↔ hasS D s = true := by
  obtain ⟨_, es, rfl, hk⟩ := h
  unfold lstS
  rw [List.mem_map]
  unfold hasS
  rw [has_eq, List.any_eq_true]
  constructor
  · rintro ⟨x, hx, rfl⟩
    rw [List.mem_mergeSort] at hx
    obtain ⟨p, hp, rfl⟩ := List.mem_map.1 (show x ∈ es.map (fun p => strOf p.1) from hx)
    obtain ⟨a, ha⟩ := hk p hp
    exact ⟨p, hp, by rw [ha]; simp [strOf, kS, Lit.sameKey]⟩
  · rintro ⟨p, hp, h⟩
    obtain ⟨a, ha⟩ := hk p hp
    have e := WideAt.sameKey_eq h
    refine ⟨a, ?_, ?_⟩
    · rw [List.mem_mergeSort]
      exact List.mem_map.2 ⟨p, hp, by rw [ha]; rfl⟩
    · rw [ha] at e
      unfold kS at e
      injection e with e
      rw [e]
theorem mem_srt (l : List ByteArray) (s : ByteArray) : s ∈ srt l ↔ s ∈ l := by unfold srt; rw [mem_lstS (goodS_set l), hasS_set]
theorem srt_ext {a b : List ByteArray} (h : ∀ s, s ∈ a ↔ s ∈ b) : srt a = srt b := lstS_ext (goodS_set a) (goodS_set b) fun s => by rw [hasS_set, hasS_set, h]
theorem strKeys_nodup {D : DataW Unit} (h : GoodS D) : (strKeys D).Nodup := by
  obtain ⟨ht, es, rfl, hk⟩ := h
  obtain ⟨_, e1, hp⟩ := ht
  injection e1 with e1
  subst e1
  show (es.map fun p => strOf p.1).Nodup
  refine List.pairwise_map.2 (hp.imp_of_mem fun {p q} hp' hq' hne e => hne ?_)
  obtain ⟨a, ha⟩ := hk p hp'
  obtain ⟨b, hb⟩ := hk q hq'
  rw [ha, hb] at e ⊢
  exact congrArg _ e
def StrictS (l : List ByteArray) : Prop := l.Pairwise fun a b => a.data.toList < b.data.toList
theorem mk_data (a : ByteArray) : (⟨a.data.toList.toArray⟩ : ByteArray) = a := by cases a; simp
theorem mem_keys (l : List ByteArray) (x : List UInt8) : x ∈ strKeys (setS l) ↔ (⟨x.toArray⟩ : ByteArray) ∈ l := by
  rw [← mem_srt l]
  unfold srt lstS
  rw [List.mem_map]
  constructor
  · intro h
    exact ⟨x, List.mem_mergeSort.2 h, rfl⟩
  · rintro ⟨y, hy, e⟩
    have : y = x := by
      have h := congrArg (fun b : ByteArray => b.data.toList) e
      simpa using h
    subst this
    exact List.mem_mergeSort.1 hy
theorem strict_srt {l : List ByteArray} (h : StrictS l) : srt l = l := by
  have nd : (l.map fun a => a.data.toList).Nodup := List.pairwise_map.2 (h.imp fun hlt e => by rw [e] at hlt; exact absurd hlt (List.lt_irrefl _))
  have hp : (strKeys (setS l)).Perm (l.map fun a => a.data.toList) := (List.perm_ext_iff_of_nodup (strKeys_nodup (goodS_set l)) nd).2 fun x => by
    rw [mem_keys, List.mem_map]
    constructor
    · intro hx
      exact ⟨_, hx, by simp⟩
    · rintro ⟨a, ha, rfl⟩
      rw [mk_data]
      exact ha
  have e : (l.map fun a => a.data.toList).mergeSort leB = l.map fun a => a.data.toList := List.mergeSort_of_pairwise (List.pairwise_map.2 (h.imp fun hlt => by
    have := List.le_of_lt hlt
    simpa [leB] using this))
  unfold srt lstS
  rw [mergeSort_of_perm hp, e, List.map_map]
  conv => rhs; rw [← List.map_id l]
  exact List.map_congr_left fun a _ => mk_data a
/-- A list that is strictly sorted and has the texts of another one. -/
theorem srt_is {l o : List ByteArray} (h : StrictS o) (hm : ∀ s, s ∈ o ↔ s ∈ l) : o = srt l := by
  rw [← strict_srt h]
  exact srt_ext hm
theorem strict_lst {D : DataW Unit} (hg : GoodS D) : StrictS (lstS D) := by
  unfold StrictS lstS
  rw [List.pairwise_map]
  have h1 : ((strKeys D).mergeSort leB).Pairwise (fun a b => leB a b = true) := List.pairwise_mergeSort (fun a b c h1 h2 => by
    simp only [leB, decide_eq_true_eq] at *
    exact List.le_trans h1 h2) (fun a b => by
    simp only [leB, Bool.or_eq_true, decide_eq_true_eq]
    exact List.le_total a b) _
  have h2 : ((strKeys D).mergeSort leB).Pairwise (· ≠ ·) := (List.mergeSort_perm _ _).nodup_iff.2 (strKeys_nodup hg)
  refine (h1.and h2).imp ?_
  rintro a b ⟨h, hne⟩
  simp only [leB, decide_eq_true_eq] at h
  show a < b
  rcases List.le_iff_lt_or_eq.1 h with h | h
  · exact h
  · exact absurd h hne
namespace Mg

def amt (s : ByteArray) (x : ByteArray × Int) : Int := if x.1.data.toList = s.data.toList then x.2 else 0
def sumAt : List (ByteArray × Int) → ByteArray → Int
  | [], _ => 0
  | x :: l, s => amt s x + sumAt l s
def nms (l : List (ByteArray × Int)) : List ByteArray := srt (l.map (·.1))
def merge (l : List (ByteArray × Int)) : List (ByteArray × Int) := ((nms l).filter fun s => decide (sumAt l s ≠ 0)).map fun s => (s, sumAt l s)
theorem data_iff {a b : ByteArray} : a.data.toList = b.data.toList ↔ a = b := by
  constructor
  · intro h
    rw [← mk_data a, ← mk_data b, h]
  · rintro rfl
    rfl
theorem amt_same (s : ByteArray) (q : Int) : amt s (s, q) = q := if_pos rfl
theorem amt_other {s : ByteArray} {x : ByteArray × Int} (h : x.1 ≠ s) : amt s x = 0 := if_neg (fun e => h (data_iff.1 e))
theorem sumAt_app (l m : List (ByteArray × Int)) (s : ByteArray) : sumAt (l ++ m) s = sumAt l s + sumAt m s := by
  induction l with
  | nil => simp [sumAt]
  | cons x l ih =>
    show amt s x + sumAt (l ++ m) s = amt s x + sumAt l s + sumAt m s
    rw [ih]
    omega
theorem sumAt_out {s : ByteArray} : ∀ {l : List (ByteArray × Int)}, s ∉ l.map (·.1) → sumAt l s = 0
  | [], _ => rfl
  | x :: l, h => by
    rw [List.map_cons, List.mem_cons, not_or] at h
    show amt s x + sumAt l s = 0
    rw [amt_other (fun e => h.1 e.symm), sumAt_out h.2]
    rfl
theorem sumAt_map (f : ByteArray → Int) (s : ByteArray) : ∀ {N : List ByteArray}, N.Nodup → (s ∈ N → sumAt (N.map fun s => (s, f s)) s = f s) ∧ (s ∉ N → sumAt (N.map fun s => (s, f s)) s = 0)
  | [], _ => ⟨fun h => by simp at h, fun _ => rfl⟩
  | n :: N, h => by
    rw [List.nodup_cons] at h
    have ih := sumAt_map f s h.2
    have e0 : sumAt ((n :: N).map fun s => (s, f s)) s = amt s (n, f n) + sumAt (N.map fun s => (s, f s)) s := rfl
    rw [e0]
    by_cases e : n = s
    · subst e
      rw [amt_same, ih.2 h.1]
      exact ⟨fun _ => by omega, fun h2 => absurd (List.mem_cons_self ..) h2⟩
    · rw [amt_other e]
      refine ⟨fun h2 => ?_, fun h2 => ?_⟩
      · rw [ih.1 ((List.mem_cons.1 h2).elim (fun e2 => absurd e2.symm e) id)]
        omega
      · rw [ih.2 (fun h3 => h2 (List.mem_cons_of_mem _ h3))]
        rfl
theorem strict_nms (l : List (ByteArray × Int)) : StrictS (nms l) := strict_lst (goodS_set _)
theorem mem_nms {l : List (ByteArray × Int)} {s : ByteArray} : s ∈ nms l ↔ s ∈ l.map (·.1) := mem_srt _ s
theorem strict_nodup {L : List ByteArray} (h : StrictS L) : L.Nodup := List.Pairwise.imp (fun {a b} hlt e => by subst e; exact List.lt_irrefl _ hlt) h
theorem mem_kept {l : List (ByteArray × Int)} {s : ByteArray} : s ∈ ((nms l).filter fun s => decide (sumAt l s ≠ 0)) ↔ sumAt l s ≠ 0 := by
  rw [List.mem_filter, decide_eq_true_iff, mem_nms]
  refine ⟨fun h => h.2, fun h => ⟨?_, h⟩⟩
  by_cases hm : s ∈ l.map (·.1)
  · exact hm
  · exact absurd (sumAt_out hm) h
theorem strict_kept (l : List (ByteArray × Int)) : StrictS ((nms l).filter fun s => decide (sumAt l s ≠ 0)) := List.Pairwise.filter _ (strict_nms l)
theorem sumAt_merge (l : List (ByteArray × Int)) (s : ByteArray) : sumAt (merge l) s = sumAt l s := by
  have h := sumAt_map (sumAt l) s (strict_nodup (strict_kept l))
  unfold merge
  by_cases h0 : sumAt l s = 0
  · rw [h.2 (fun h2 => mem_kept.1 h2 h0), h0]
  · exact h.1 (mem_kept.2 h0)
theorem merge_ext {l m : List (ByteArray × Int)} (h : ∀ s, sumAt l s = sumAt m s) : merge l = merge m := by
  have hf : sumAt l = sumAt m := funext h
  have e : ((nms l).filter fun s => decide (sumAt l s ≠ 0)) = ((nms m).filter fun s => decide (sumAt m s ≠ 0)) := by
    rw [srt_is (strict_kept l) (l := ((nms m).filter fun s => decide (sumAt m s ≠ 0))) (fun s => by rw [mem_kept, mem_kept, h s])]
    exact strict_srt (strict_kept m)
  unfold merge
  rw [e, hf]
theorem merge_pieces (a b : List (ByteArray × Int)) : merge (a ++ b) = merge (merge a ++ merge b) := merge_ext fun s => by
  rw [sumAt_app, sumAt_app, sumAt_merge, sumAt_merge]

/-! ### The map of lists -/
def qsOf (l : List (ByteArray × Int)) (s : ByteArray) : List Int := (l.filter fun x => decide (x.1 = s)).map (·.2)
theorem qs_sum (l : List (ByteArray × Int)) (s : ByteArray) : sumAt l s = (qsOf l s).sum := by
  induction l with
  | nil => rfl
  | cons x l ih =>
    show amt s x + sumAt l s = _
    unfold qsOf at ih ⊢
    by_cases e : x.1 = s
    · rw [List.filter_cons_of_pos (by simp [e]), List.map_cons, List.sum_cons, ih]
      obtain ⟨y, q⟩ := x
      simp only at e
      subst e
      rw [amt_same]
    · rw [List.filter_cons_of_neg (by simp [e]), ih, amt_other e]
      omega
theorem qs_snoc (l : List (ByteArray × Int)) (s t : ByteArray) (q : Int) : qsOf (l ++ [(s, q)]) t = qsOf l t ++ (if s = t then [q] else []) := by
  unfold qsOf
  rw [List.filter_append, List.map_append]
  congr 1
  by_cases e : s = t <;> simp [e]
theorem qs_out {l : List (ByteArray × Int)} {s : ByteArray} (h : s ∉ l.map (·.1)) : qsOf l s = [] := by
  unfold qsOf
  rw [List.map_eq_nil_iff, List.filter_eq_nil_iff]
  intro x hx e
  exact h (List.mem_map.2 ⟨x, hx, of_decide_eq_true e⟩)
theorem qs_mem {l : List (ByteArray × Int)} {s : ByteArray} {q : Int} (h : q ∈ qsOf l s) : ∃ x ∈ l, x.2 = q := by
  unfold qsOf at h
  obtain ⟨x, hx, rfl⟩ := List.mem_map.1 h
  exact ⟨x, (List.mem_filter.1 hx).1, rfl⟩
theorem qs_len (l : List (ByteArray × Int)) (s : ByteArray) : (qsOf l s).length ≤ l.length := by
  unfold qsOf
  rw [List.length_map]
  exact List.length_filter_le _ _
structure Grp (D : DataW Unit) (l : List (ByteArray × Int)) : Prop where
  good : GoodS D
  has : ∀ s, hasS D s = true ↔ s ∈ l.map (·.1)
  in_ : ∀ s : ByteArray, s ∈ l.map (·.1) → D.atKey (kS s) DataW.nil = .slice (ChangeShapes.lits .i64 (qsOf l s)) []
  out_ : ∀ s : ByteArray, s ∉ l.map (·.1) → D.atKey (kS s) DataW.nil = .nil
theorem grp_none : Grp (.map []) [] := ⟨goodS_none, fun s => by rw [hasS_none]; simp, fun s h => by simp at h, fun s _ => rfl⟩
theorem lits_inj {q : IntKind} : ∀ {a b : List Int}, (ChangeShapes.lits q a : List (DataW Unit)) = ChangeShapes.lits q b → a = b
  | [], [], _ => rfl
  | [], _ :: _, h => by simp [ChangeShapes.lits] at h
  | _ :: _, [], h => by simp [ChangeShapes.lits] at h
  | x :: a, y :: b, h => by
    simp only [ChangeShapes.lits, List.map_cons, List.cons.injEq] at h
    obtain ⟨h1, h2⟩ := h
    have e : x = y := by
      injection h1 with h1
      injection h1
    rw [e, lits_inj h2]
theorem good_putv {D : DataW Unit} (h : GoodS D) (s : ByteArray) (v : DataW Unit) : GoodS (D.put (kS s) v) := by
  obtain ⟨ht, es, rfl, hk⟩ := h
  refine ⟨ht.put (kS_key s) _, _, rfl, fun p hp => ?_⟩
  rcases mem_insert hp with h | h
  · exact ⟨_, by rw [h]; rfl⟩
  · exact hk p ((List.mem_filter.1 h).1)
theorem Grp.zs {D : DataW Unit} {l : List (ByteArray × Int)} (h : Grp D l) {s : ByteArray} {w : World} {base : Nat} {e : TypeId} {v : Value} {zs : List Int} (ho : w.ownsInts base e .i64 v zs) (hat : D.atKey (kS s) .nil = rowDatum .i64 v zs) : zs = qsOf l s := by
  by_cases hn : s ∈ l.map (·.1)
  · rw [h.in_ s hn] at hat
    rcases ho.datum (H := Unit) with ⟨h1, h2⟩ | h1
    · rw [h1] at hat; cases hat
    · rw [h1] at hat
      injection hat with hat
      exact (lits_inj hat).symm
  · rw [h.out_ s hn] at hat
    rw [qs_out hn]
    rcases ho.datum (H := Unit) with ⟨_, h2⟩ | h1
    · exact h2
    · rw [h1] at hat; cases hat
theorem Grp.step {D : DataW Unit} {l : List (ByteArray × Int)} (h : Grp D l) (s : ByteArray) (q : Int) : Grp (D.put (kS s) (.slice (ChangeShapes.lits .i64 (qsOf l s ++ [q])) [])) (l ++ [(s, q)]) := by
  refine ⟨good_putv h.good s _, fun t => ?_, fun t ht => ?_, fun t ht => ?_⟩
  · rw [List.map_append, List.mem_append, ← h.has t]
    unfold hasS
    by_cases e : t = s
    · subst e
      rw [has_put_same h.good.1.isMap (kS_key t)]
      simp
    · rw [has_put_other (fun e' => e (kS_inj e'))]
      simp [e]
  · rw [qs_snoc]
    by_cases e : t = s
    · subst e
      rw [atKey_put_same h.good.1.isMap (kS_key t), if_pos rfl]
    · rw [atKey_put_other (fun e' => e (kS_inj e')), if_neg (fun e' => e e'.symm), List.append_nil]
      refine h.in_ t ?_
      rw [List.map_append, List.mem_append] at ht
      exact ht.elim id (fun h => by simp [e] at h)
  · rw [List.map_append, List.mem_append, not_or] at ht
    have e : t ≠ s := fun e => ht.2 (by simp [e])
    rw [atKey_put_other (fun e' => e (kS_inj e'))]
    exact h.out_ t ht.1
theorem Grp.names {D : DataW Unit} {l : List (ByteArray × Int)} (h : Grp D l) : lstS D = nms l := lstS_ext h.good (goodS_set _) fun s => by rw [h.has, hasS_set]
/-- What is told of the first names. -/
def told (l : List (ByteArray × Int)) (N : List ByteArray) : List (ByteArray × Int) := (N.filter fun s => decide (sumAt l s ≠ 0)).map fun s => (s, sumAt l s)
theorem told_all (l : List (ByteArray × Int)) : told l (nms l) = merge l := rfl
theorem told_snoc {l : List (ByteArray × Int)} {N : List ByteArray} {j : Nat} {s : ByteArray} (h : N[j]? = some s) : told l (N.take (j + 1)) = told l (N.take j) ++ (if sumAt l s ≠ 0 then [(s, sumAt l s)] else []) := by
  unfold told
  rw [take_snoc h, List.filter_append, List.map_append]
  congr 1
  by_cases e : sumAt l s ≠ 0 <;> simp [e]
theorem told_len (l : List (ByteArray × Int)) (N : List ByteArray) : (told l N).length ≤ N.length := by
  unfold told
  rw [List.length_map]
  exact List.length_filter_le _ _
/-- Quantities that may be merged. -/
structure Fine (l : List (ByteArray × Int)) : Prop where
  nn : ∀ x ∈ l, 0 ≤ x.2
  le : ∀ s, sumAt l s ≤ 1152921504606846976
end Mg
end Go.Proofs.Ytiekolbkmgdfoaa
