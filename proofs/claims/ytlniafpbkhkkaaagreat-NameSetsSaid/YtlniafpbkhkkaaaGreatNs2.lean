/-
  A set, a sorted list of it, the book beside them: what is kept where one of them turns.
  Conditions: none beyond each lemma's own premises.
-/
import Derived.Test.YtlniafpbkhkkaaaGreatNs1
import Derived.Test.YtlniafpbkhkkaaaGreatNsPlain
import Derived.Test.YtlniafpbkhkkaaaGreatBk8
namespace Go.Proofs.YtlniafpbkhkkaaaGreat
open Go.RowKit Go.Maps Go.Sort
set_option maxRecDepth 100000

/-- What block k holds: cells of that kind. -/
def KindAt (w : World) (k : Nat) (t : TypeId) : Prop := ∃ cs f, w.heap[k]? = some (.cells cs t f)
theorem KindAt.ne {w : World} {k : Nat} {t t' : TypeId} (h : KindAt w k t) (h' : KindAt w k t') : t = t' := by
  obtain ⟨_, _, h⟩ := h
  obtain ⟨_, _, h'⟩ := h'
  rw [h] at h'
  injection h' with h'
  injection h' with _ h' _
theorem own_kind {w : World} {base : Nat} {e : TypeId} {size n : Nat} {v : Value} {xs : List Value} (h : w.ownsRow base e size v n xs) {q : Nat} (hq : v.ownBlock = some q) : KindAt w q e := by
  rcases h.2 with ⟨rfl, _⟩ | ⟨g, cap, cur, rfl, _, hh, _⟩
  · simp [Value.ownBlock] at hq
  · have e1 : g = q := by simpa [Value.ownBlock] using hq
    subst e1
    exact ⟨_, _, hh⟩
theorem BkAt.kind {g : Nat} {tv wv : Value} {L : List TRow} {w : World} (h : BkAt g tv wv L w) {k : Nat} (hk : k ∈ bkBlocks g tv wv L) : KindAt w k 44 ∨ KindAt w k 22 ∨ KindAt w k 9 := by
  rcases mem_bk.1 hk with rfl | hk | hk | hk
  · exact .inl ⟨_, _, h.cells⟩
  · exact .inr (.inl (own_kind h.ot hk))
  · exact .inr (.inl (own_kind h.ow hk))
  · obtain ⟨r, hr, hk⟩ := List.mem_flatMap.1 hk
    unfold TRow.blocks at hk
    simp only [List.mem_append, Option.mem_toList] at hk
    rcases hk with hk | hk
    · exact .inr (.inr (own_kind (h.rows r hr).v hk))
    · exact .inr (.inr (own_kind (h.rows r hr).m hk))
theorem SetF.kind {c : Nat} {S : List Nat} {D : DataW Unit} {w : World} (h : SetF c S D w) {k : Nat} (hk : k ∈ S) {t : TypeId} (ht : KindAt w k t) : t = 60 := by
  rcases h with ⟨b, rfl, h⟩ | ⟨rfl, rfl, h⟩
  · simp only [List.mem_cons, List.not_mem_nil, or_false] at hk
    rcases hk with rfl | rfl
    · exact ht.ne ⟨_, _, h.1⟩
    · obtain ⟨_, _, ht⟩ := ht
      obtain ⟨es, clock, hb, _⟩ := h.2.1
      rw [ht] at hb
      cases hb
  · obtain rfl : k = c := by simpa using hk
    exact ht.ne ⟨_, _, h⟩
theorem SetF.off_book {c g : Nat} {S : List Nat} {D : DataW Unit} {tv wv : Value} {L : List TRow} {w : World} (h : SetF c S D w) (hb : BkAt g tv wv L w) : ∀ k ∈ S, k ∉ bkBlocks g tv wv L := by
  intro k hk hk'
  rcases hb.kind hk' with e | e | e
  all_goals
    have := h.kind hk e
    revert this
    decide
theorem SetF.off_row {c : Nat} {S : List Nat} {D : DataW Unit} {w : World} (h : SetF c S D w) {base size n : Nat} {v : Value} {xs : List Value} (ho : w.ownsRow base 9 size v n xs) : ∀ q, v.ownBlock = some q → q ∉ S := by
  intro q hq hk
  have := h.kind hk (own_kind ho hq)
  revert this
  decide
/-- All of it: the set in c over S, the owned one in block bo, the list now, the book in g. -/
structure NsAt (w0 : World) (co bo : Nat) (ow : ByteArray) (g c : Nat) (S : List Nat) (D : DataW Unit) (v : Value) (p : Nat) (tv wv : Value) (L : List TRow) (w : World) : Prop where
  good : GoodS D
  set : SetF c S D w
  own : w.heap[bo]? = some (.cells #[.pointer (some ⟨co, 0, none⟩), .string ow] 56 (0, 0))
  now : w.ownsRow w0.heap.size 9 1 v p (strs (lstS D))
  len : (lstS D).length = p
  book : BkAt g tv wv L w
  rows : ∀ r ∈ L, r.mm = r.ss ∧ r.ss.length ≤ 10000000
  below : Below w0.heap.size w0 w
  lowS : ∀ q ∈ S, w0.heap.size ≤ q
  lowB : ∀ q ∈ bkBlocks g tv wv L, w0.heap.size ≤ q
  nowB : ∀ q, v.ownBlock = some q → q ∉ bkBlocks g tv wv L
  sz : ∀ s ∈ lstS D, s.size ≤ 9000
section
variable {w0 w w' : World} {co bo g c p : Nat} {ow : ByteArray} {S : List Nat} {D : DataW Unit} {v tv wv : Value} {L : List TRow}
theorem NsAt.bolt (h : NsAt w0 co bo ow g c S D v p tv wv L w) : bo < w.heap.size := Blk.lt (t := 56) h.own
theorem NsAt.bnew (h : NsAt w0 co bo ow g c S D v p tv wv L w) (hb : Below w.heap.size w w') : NsAt w0 co bo ow g c S D v p tv wv L w' :=
  ⟨h.good, h.set.below hb, (hb.block bo h.bolt).trans h.own, own_below h.now hb (fun k hk => (h.now.lt k hk).2), h.len, h.book.below hb, h.rows, h.below.trans (hb.mono h.below.size), h.lowS, h.lowB, h.nowB, h.sz⟩
theorem NsAt.bo_off (h : NsAt w0 co bo ow g c S D v p tv wv L w) : bo ∉ bkBlocks g tv wv L ∧ bo ∉ S := by
  refine ⟨fun e => ?_, fun e => ?_⟩
  · rcases h.book.kind e with e | e | e
    all_goals
      have := e.ne ⟨_, _, h.own⟩
      revert this
      decide
  · have := h.set.kind e ⟨_, _, h.own⟩
    revert this
    decide
/-- The set turned (Add, Del), the list now turned with it. -/
theorem NsAt.turn (h : NsAt w0 co bo ow g c S D v p tv wv L w) {S' : List Nat} {D' : DataW Unit} {v' : Value} {p' : Nat} {w1 : World} (hb : Below w.heap.size w w1) (hm : Mv S S' w1 w') (hs : SetF c S' D' w') (hg : GoodS D')
    (ho : w1.ownsRow w0.heap.size 9 1 v' p' (strs (lstS D'))) (hl : (lstS D').length = p') (hn : ∀ q, v'.ownBlock = some q → w.heap.size ≤ q ∨ v.ownBlock = some q) (hz : ∀ s ∈ lstS D', s.size ≤ 9000) : NsAt w0 co bo ow g c S' D' v' p' tv wv L w' := by
  have h1 := h.bnew hb
  have hzz := h.below.size
  have hz1 := hb.size
  have hoff := h1.set.off_book h1.book
  have hnow : ∀ q, v'.ownBlock = some q → q ∉ S := h1.set.off_row ho
  refine ⟨hg, hs, (hm.block bo h1.bolt h1.bo_off.2).trans h1.own, own_keep' ho (fun q hq => hm.block q (ho.lt q hq).2 (hnow q hq)), hl, h1.book.aside hm (fun k hk hk' => hoff k hk' hk), h.rows, ?_, ?_, h.lowB, ?_, hz⟩
  · exact h1.below.trans (hm.below (fun q hq => h.lowS q hq) (by omega))
  · intro q hq
    rcases hm.link q hq with h2 | h2
    · exact h.lowS q h2
    · omega
  · intro q hq e
    rcases hn q hq with h2 | h2
    · have := h.book.there q e; omega
    · exact h.nowB q h2 e
/-- A list that the book takes. -/
theorem NsAt.kept (h : NsAt w0 co bo ow g c S D v p tv wv L w) {u tv' wv' m : Value} {w1 : World} {ss : List ByteArray} (hb : Below w.heap.size w w1) (hu : ∀ q, u.ownBlock = some q → w.heap.size ≤ q) (hk : BkAt g tv' wv' (L ++ [⟨u, ss, m, ss⟩]) w')
    (hm : Mv (u.ownBlock.toList ++ bkBlocks g tv wv L) (bkBlocks g tv' wv' (L ++ [⟨u, ss, m, ss⟩])) w1 w') (hl : ss.length ≤ 10000000) : NsAt w0 co bo ow g c S D v p tv' wv' (L ++ [⟨u, ss, m, ss⟩]) w' := by
  have h1 := h.bnew hb
  have hzz := h.below.size
  have hz1 := hb.size
  have hoff := h1.set.off_book h1.book
  have hn : ∀ k, k < w.heap.size → k ∉ bkBlocks g tv wv L → k ∉ u.ownBlock.toList ++ bkBlocks g tv wv L := fun k hk h2 e => by
    rcases List.mem_append.1 e with e | e
    · have := hu k (by simpa using e); omega
    · exact h2 e
  refine ⟨h.good, h1.set.keep (fun k hk => hm.block k (h1.set.there k hk) (hn k (h.set.there k hk) (hoff k hk))), (hm.block bo h1.bolt (hn bo h.bolt h.bo_off.1)).trans h1.own, own_keep' h1.now (fun q hq => hm.block q (h1.now.lt q hq).2 (hn q (h.now.lt q hq).2 (h.nowB q hq))), h.len, hk, ?_, ?_, h.lowS, ?_, ?_, h.sz⟩
  · intro r hr
    rcases List.mem_append.1 hr with hr | hr
    · exact h.rows r hr
    · obtain rfl := List.mem_singleton.1 hr
      exact ⟨rfl, hl⟩
  · refine h1.below.trans (hm.below (fun q hq => ?_) (by omega))
    rcases List.mem_append.1 hq with e | e
    · have := hu q (by simpa using e); omega
    · exact h.lowB q e
  · intro q hq
    rcases hm.link q hq with e | e
    · rcases List.mem_append.1 e with e | e
      · have := hu q (by simpa using e); omega
      · exact h.lowB q e
    · omega
  · intro q hq e
    have hlt := (h.now.lt q hq).2
    rcases hm.link q e with e | e
    · exact hn q hlt (h.nowB q hq) e
    · omega
end
end Go.Proofs.YtlniafpbkhkkaaaGreat
