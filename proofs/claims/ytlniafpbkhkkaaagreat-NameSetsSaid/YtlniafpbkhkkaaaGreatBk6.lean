/-
  The book with lists of texts: a list that is grown; what is kept meanwhile.
  Conditions: lists that nobody else holds.
-/
import Derived.Test.YtlniafpbkhkkaaaGreatBk5
namespace Go.Proofs.YtlniafpbkhkkaaaGreat
open Go.RowKit
attribute [local go_sem ↓] Go.wp_at_zero Go.wp_at_succ
set_option maxRecDepth 100000

/-- The first part of a row stays held where the whole row stays held. -/
theorem own_first {w w' : World} {base base0 : Nat} {e : TypeId} {size : Nat} {l v : Value} {n0 n1 : Nat} {xs0 xs1 : List Value} (hl : w.ownsRow base e size l n1 xs1) (hv : w.ownsRow base0 e size v n0 xs0)
    (hb : l.ownBlock = v.ownBlock) (hl' : w'.ownsRow base e size l n1 xs1) (hn : n0 ≤ n1) : w'.ownsRow base0 e size v n0 xs0 := by
  refine ⟨hv.1, ?_⟩
  rcases hv.2 with h | ⟨g, cap, cur, rfl, hbg, hg, hnc, hcm, hcs, ht⟩
  · exact .inl h
  · refine .inr ?_
    rcases hl.2 with ⟨rfl, _⟩ | ⟨g1, cap1, cur1, rfl, _, hg1, _, _, hcs1, ht1⟩
    · simp [Value.ownBlock] at hb
    · have e1 : g1 = g := by simpa [Value.ownBlock] using hb
      subst e1
      rw [hg] at hg1
      injection hg1 with hg1
      injection hg1 with e2 _ _
      subst e2
      rcases hl'.2 with ⟨h, _⟩ | ⟨g2, cap2, cur2, h, _, hg2, _, _, hcs2, ht2⟩
      · cases h
      · injection h with h1 h2 h3
        injection h1 with h1
        injection h1 with h1 _ _
        subst h1 h3
        have hx : xs0 = xs1.take (n0 * size) := by
          rw [← ht, ← ht1, List.take_take, Nat.min_eq_left (Nat.mul_le_mul_right _ hn)]
        refine ⟨g1, cap, cur2, rfl, hbg, hg2, hnc, hcm, ?_, ?_⟩
        · rw [hcs2, ← hcs1, hcs]
        · rw [hx, ← ht2, List.take_take, Nat.min_eq_left (Nat.mul_le_mul_right _ hn)]
/-- Rows of different kinds are never one block. -/
theorem own_kinds {w : World} {base base' : Nat} {e e' : TypeId} {size size' n n' : Nat} {v v' : Value} {xs xs' : List Value} (h : w.ownsRow base e size v n xs) (h' : w.ownsRow base' e' size' v' n' xs') (hne : e ≠ e') {q : Nat} (hq : v.ownBlock = some q) : v'.ownBlock ≠ some q := by
  rcases h.2 with ⟨rfl, _⟩ | ⟨g, cap, cur, rfl, _, hh, _⟩
  · simp [Value.ownBlock] at hq
  · have e1 : g = q := by simpa [Value.ownBlock] using hq
    subst e1
    exact own_blk_ne h' (t := e) (cs := cur) hh (Ne.symm hne)
/-- The lists that were grown: value and what it holds. -/
structure Grown (L : List TRow) (G : List (Value × List ByteArray)) (B : Nat) (w : World) : Prop where
  own : ∀ r ∈ G, w.ownsRow 0 9 1 r.1 r.2.length (strs r.2)
  len : ∀ r ∈ G, r.2.length ≤ 100000000
  mark : ∀ (j : Nat) (r : Value × List ByteArray), G[j]? = some r → r.2 = marks j 0 r.2.length
  at_ : ∀ (j : Nat) (r : Value × List ByteArray), G[j]? = some r → ∀ q : Nat, r.1.ownBlock = some q → (∃ t : TRow, L[j]? = some t ∧ t.v.ownBlock = some q) ∨ B ≤ q
theorem Grown.keep {L : List TRow} {G : List (Value × List ByteArray)} {B : Nat} {w w' : World} (h : Grown L G B w) (hk : ∀ (j : Nat) (r : Value × List ByteArray), G[j]? = some r → ∀ q : Nat, r.1.ownBlock = some q → w'.heap[q]? = w.heap[q]?) : Grown L G B w' :=
  ⟨fun r hr => by
    obtain ⟨j, hj⟩ := List.getElem?_of_mem hr
    exact own_keep' (h.own r hr) (hk j r hj), h.len, h.mark, h.at_⟩
theorem Grown.snoc {L : List TRow} {G : List (Value × List ByteArray)} {B : Nat} {w : World} (h : Grown L G B w) (l : Value) (m : Nat) (ho : w.ownsRow 0 9 1 l m (strs (marks G.length 0 m))) (hm : m ≤ 100000000)
    (ha : ∀ q, l.ownBlock = some q → (∃ t, L[G.length]? = some t ∧ t.v.ownBlock = some q) ∨ B ≤ q) : Grown L (G ++ [(l, marks G.length 0 m)]) B w := by
  refine ⟨fun r hr => ?_, fun r hr => ?_, fun j r hr => ?_, fun j r hr => ?_⟩
  · rcases List.mem_append.1 hr with hr | hr
    · exact h.own r hr
    · obtain rfl : r = (l, marks G.length 0 m) := by simpa using hr
      simpa [marks_len] using ho
  · rcases List.mem_append.1 hr with hr | hr
    · exact h.len r hr
    · obtain rfl : r = (l, marks G.length 0 m) := by simpa using hr
      simpa [marks_len] using hm
  all_goals
    rw [List.getElem?_append] at hr
    split at hr
    · first | exact h.mark j r hr | exact h.at_ j r hr
    · have hj : j = G.length := by
        rcases Nat.lt_or_ge (j - G.length) 1 with h1 | h1
        · omega
        · rw [List.getElem?_eq_none (by simpa using h1)] at hr; cases hr
      subst hj
      obtain rfl : (l, marks G.length 0 m) = r := by simpa using hr
      first | (simp [marks_len]; done) | exact ha
/-- A step of a list's growth: what the list held first, it holds still. -/
structure GrowAt (v l : Value) (ss : List ByteArray) (k n B : Nat) (w : World) : Prop where
  ov : w.ownsRow 0 9 1 v ss.length (strs ss)
  ol : w.ownsRow 0 9 1 l n (strs (marks k 0 n))
  le : ss.length ≤ n
  at_ : l.ownBlock = v.ownBlock ∨ ∀ q, l.ownBlock = some q → B ≤ q
theorem GrowAt.step {v l l' : Value} {ss : List ByteArray} {k n m B : Nat} {w w' : World} (h : GrowAt v l ss k n B w) (ho : w'.ownsRow 0 9 1 l' (n + m) (strs (marks k 0 n) ++ strs (marks k n m))) (hk : w'.ownsRow 0 9 1 l n (strs (marks k 0 n)))
    (hg : w.grownBy w' l.ownBlock) (hl : l'.ownBlock = l.ownBlock ∨ l'.ownBlock = some w.heap.size) (hB : B ≤ w.heap.size) : GrowAt v l' ss k (n + m) B w' := by
  refine ⟨?_, ?_, by have := h.le; omega, ?_⟩
  · by_cases e : l.ownBlock = v.ownBlock
    · exact own_first h.ol h.ov e hk h.le
    · exact own_grown h.ov hg (fun k' hk' e' => e (e'.trans hk'.symm))
  · rw [marks_add, strs_append]; exact ho
  · rcases hl with e | e
    · rw [e]; exact h.at_
    · refine .inr fun q hq => ?_
      rw [e] at hq
      injection hq with hq
      omega
theorem GrowAt.below {v l : Value} {ss : List ByteArray} {k n B : Nat} {w w' : World} (h : GrowAt v l ss k n B w) (hb : Below w.heap.size w w') : GrowAt v l ss k n B w' :=
  ⟨own_below h.ov hb (fun k hk => (h.ov.lt k hk).2), own_below h.ol hb (fun k hk => (h.ol.lt k hk).2), h.le, h.at_⟩
/-- The book beside a list's growth. -/
theorem BkAt.grow {g : Nat} {tv wv : Value} {L : List TRow} {w w' : World} (h : BkAt g tv wv L w) {k : Nat} {t : TRow} (ht : L[k]? = some t) (hk : ∀ q, q < w.heap.size → t.v.ownBlock ≠ some q → w'.heap[q]? = w.heap[q]?)
    (ho : w'.ownsRow 0 9 1 t.v t.ss.length (strs t.ss)) : BkAt g tv wv L w' := by
  have hm := List.mem_of_getElem? ht
  have hin : ∀ q, t.v.ownBlock = some q → q ∈ rowBlocks L := fun q hq => mem_rowBlocks hm (.inl hq)
  have hlt := h.there
  refine ⟨(hk g (hlt g (mem_bk.2 (.inl rfl))) (fun e => h.sep.gR (hin g e))).trans h.cells, own_keep' h.ot (fun q hq => hk q (h.ot.lt q hq).2 (fun e => h.sep.TR q hq (hin q e))), own_keep' h.ow (fun q hq => hk q (h.ow.lt q hq).2 (fun e => h.sep.WR q hq (hin q e))), ?_, h.len, h.sep⟩
  intro r hr
  obtain ⟨j, hj⟩ := List.getElem?_of_mem hr
  have h0 := h.rows r hr
  refine ⟨?_, own_keep' h0.m (fun q hq => hk q (h0.m.lt q hq).2 (fun e => (nodup_block h.sep.nd ht hj e (.inr hq)).2 hq)), h0.lv, h0.lm⟩
  by_cases hjk : k = j
  · subst hjk
    obtain rfl : t = r := by rw [ht] at hj; injection hj
    exact ho
  · exact own_keep' h0.v (fun q hq => hk q (h0.v.lt q hq).2 (fun e => hjk (nodup_block h.sep.nd ht hj e (.inl hq)).1))
/-- The grown lists beside the next list's growth. -/
theorem Grown.grow {g : Nat} {tv wv : Value} {L : List TRow} {G : List (Value × List ByteArray)} {B : Nat} {w w' : World} (h : BkAt g tv wv L w) (hG : Grown L G B w) (hB : ∀ q ∈ bkBlocks g tv wv L, q < B) {t : TRow} (ht : L[G.length]? = some t)
    (hk : ∀ q, q < w.heap.size → t.v.ownBlock ≠ some q → w'.heap[q]? = w.heap[q]?) : Grown L G B w' :=
  hG.keep fun j r hr q hq => hk q ((hG.own r (List.mem_of_getElem? hr)).lt q hq).2 (fun e => by
    have hj : j < G.length := (List.getElem?_eq_some_iff.1 hr).1
    rcases hG.at_ j r hr q hq with ⟨t', ht', e'⟩ | hq'
    · have := (nodup_block h.sep.nd ht ht' e (.inl e')).1
      omega
    · have := hB q (mem_bk.2 (.inr (.inr (.inr (mem_rowBlocks (List.mem_of_getElem? ht) (.inl e))))))
      omega)
end Go.Proofs.YtlniafpbkhkkaaaGreat
