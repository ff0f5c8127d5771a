/-
 The program's data, the document's data and the book beside each other: what one of them does to the others.
 Conditions: each lemma's own premises.
-/
import Derived.Test.YtnpkplegeddhcaaGreatBk3
import Derived.Test.YtnpkplegeddhcaaGreatR8f
import Derived.Test.YtnpkplegeddhcaaGreatR8j
import Derived.Test.YtnpkplegeddhcaaGreatRef9
namespace Go.Proofs.YtnpkplegeddhcaaGreat
open Go.RowKit Go.Maps Go.Shelf Kb
set_option maxRecDepth 100000

theorem cell_obj {w : World} {a : Addr} {v : Value} (h : w.cell? a = some v) : ∃ cs t fr, w.heap[a.block]? = some (.cells cs t fr) ∧ v ∈ cs.toList := by
 unfold World.cell? at h
 cases hb : w.heap[a.block]? with
 | none => rw [hb] at h; cases h
 | some ob =>
  rw [hb] at h
  cases ob with
  | cells cs t fr =>
   refine ⟨cs, t, fr, rfl, ?_⟩
   have h2 : (if a.spot.isSome then none else cs[a.off]?) = some v := h
   by_cases hs : a.spot.isSome = true
   ·rw [if_pos hs] at h2; cases h2
   ·rw [if_neg hs] at h2
    exact List.mem_of_getElem? (i := a.off) (by rw [Array.getElem?_toList]; exact h2)
  | _ => cases h
/-- What the program's data need: their own kinds of blocks stay. -/
def KeepR (w w' : World) : Prop := ∀ (k : Nat) (ob : Obj), w.heap[k]? = some ob → (∀ (cs : Array Value) (t : TypeId) (fr : Nat × Nat), ob = Obj.cells cs t fr → t = 82 ∨ t = 106) → w'.heap[k]? = w.heap[k]?
theorem RefAt.keepR {r : Nat} {st : Rf} {w w' : World} (h : RefAt r st w) (hk : KeepR w w') : RefAt r st w' := by
 obtain ⟨c, vp, va, vs, h1, hp, ha, h2, h3, h4, h5, h6⟩ := h
 have keep : ∀ {α : Type} [Kd α] {v : Value} {D : DataW Unit}, MapAt α v D w → MapAt α v D w' := by
  intro α _ v D hm2
  rcases hm2 with h | ⟨q, h7, h8⟩
  ·exact .inl h
  ·obtain ⟨es, clock, h11, _⟩ := id h8
   exact .inr ⟨q, h7, own_keep h8 (hk q _ h11 (fun _ _ _ e => by cases e))⟩
 refine ⟨c, vp, va, vs, (hk r _ h1 (fun _ _ _ e => by injection e with _ e _; exact .inl e.symm)).trans h1, hp, ha, keep h2, keep h3, keep h4, ?_, h6⟩
 obtain ⟨q, n, h9, h10⟩ := h5
 refine ⟨q, n, (hk c _ h9 (fun _ _ _ e => by injection e with _ e _; exact .inr e.symm)).trans h9, ?_⟩
 obtain ⟨es, clock, h11, h12⟩ := h10
 exact ⟨es, clock, (hk q _ h11 (fun _ _ _ e => by cases e)).trans h11, h12⟩
theorem Lows.keepR {B r : Nat} {w w' : World} (h : Lows B r w) (hk : KeepR w w') : Lows B r w' := by
 obtain ⟨c, vp, va, vs, h1, h2⟩ := h
 exact ⟨c, vp, va, vs, (hk r _ h1 (fun _ _ _ e => by injection e with _ e _; exact .inl e.symm)).trans h1, h2⟩
/-- What the document's data need: their own block and every block with a text or a number in it stays. -/
def Keep8 (w w' : World) : Prop := w.heap.size ≤ w'.heap.size ∧ ∀ (k : Nat) (cs : Array Value) (t : TypeId) (fr : Nat × Nat), w.heap[k]? = some (.cells cs t fr) → (t = 39 ∨ ∃ u ∈ cs.toList, (∃ s, u = Value.string s) ∨ ∃ z, u = Value.int .i64 z) → w'.heap[k]? = w.heap[k]?
theorem RowsAt.keep8 {α : Type} [Kd α] {w w' : World} {N : Nat} {A : Option Addr} {l : List α} (h : RowsAt w w.heap.size A N l) (hk : Keep8 w w') (h0 : ∀ y : α, ∃ s, (Kd.val y).cells[0]? = some (.string s)) : RowsAt w' w'.heap.size A N l := ⟨fun hn => by
 obtain ⟨ad, e, hlt, hc⟩ := h.row hn
 obtain ⟨y, hy⟩ : ∃ y, l[0]? = some y := ⟨_, List.getElem?_eq_getElem hn⟩
 obtain ⟨s, hs⟩ := h0 y
 obtain ⟨cs, t, fr, hb, hin⟩ := cell_obj (hc 0 y hy 0 _ hs)
 rw [block_of_add, block_of_add] at hb
 have heq := hk.2 _ cs t fr hb (.inr ⟨_, hin, .inl ⟨s, rfl⟩⟩)
 refine ⟨ad, e, Nat.lt_of_lt_of_le hlt hk.1, fun k x hx j u hu => ?_⟩
 rw [World.cell?_of_block (w := w) (w' := w') (by rw [block_of_add, block_of_add]; exact heq)]
 exact hc k x hx j u hu⟩
theorem R8At.keep8 {x : Nat} {st : R8} {w w' : World} (h : R8At x st w) (hk : Keep8 w w') : R8At x st w' := by
 obtain ⟨vl, vp, va, vs, h1, ⟨Al, cl, e1, a1, b1, d1⟩, ⟨Ap, cp, e2, a2, b2, d2⟩, ⟨Aa, ca, e3, a3, b3, d3⟩, ⟨As, cs', e4, a4, b4, d4⟩⟩ := h
 refine ⟨vl, vp, va, vs, (hk.2 x _ _ _ h1 (.inl rfl)).trans h1, ⟨Al, cl, e1, a1, ⟨b1.1, fun hn => ?_⟩, d1⟩, ⟨Ap, cp, e2, a2, b2.keep8 hk (fun y => ⟨_, rfl⟩), d2⟩, ⟨Aa, ca, e3, a3, b3.keep8 hk (fun y => ⟨_, rfl⟩), d3⟩, ⟨As, cs', e4, a4, b4.keep8 hk (fun y => ⟨_, rfl⟩), d4⟩⟩
 obtain ⟨ad, e, hlt, hc⟩ := b1.2 hn
 have hz : (ints st.l)[0]? = some (.int .i64 (st.l[0])) := by
  unfold ints
  rw [List.getElem?_map, List.getElem?_eq_getElem hn]
  rfl
 obtain ⟨cs, t, fr, hb, hin⟩ := cell_obj (hc 0 _ hz)
 rw [block_of_add] at hb
 have heq := hk.2 _ cs t fr hb (.inr ⟨_, hin, .inr ⟨_, rfl⟩⟩)
 refine ⟨ad, e, Nat.lt_of_lt_of_le hlt hk.1, fun j u hu => ?_⟩
 rw [World.cell?_of_block (w := w) (w' := w') (by rw [block_of_add]; exact heq)]
 exact hc j u hu
/-- What the book needs: blocks of its kinds stay. -/
def bkType (t : TypeId) : Bool := t == 61 || t == 84 || t == 35 || t == 88 || t == 36 || t == 92 || t == 37
def KeepB (w w' : World) : Prop := ∀ (k : Nat) (cs : Array Value) (t : TypeId) (fr : Nat × Nat), w.heap[k]? = some (.cells cs t fr) → bkType t = true → w'.heap[k]? = w.heap[k]?
section
variable {g : Nat} {bc : Array Value} {tp wp ta wa ts ws : Value} {Lp Lp' : List (KRow Party)} {La La' : List (KRow Account)} {Ls Ls' : List (KRow Asset)} {w w' : World} {S S' : List Nat}
theorem Kb.Bk3.keepB (h : Bk3 g bc tp wp ta wa ts ws Lp La Ls w) (hk : KeepB w w') : Bk3 g bc tp wp ta wa ts ws Lp La Ls w' :=
 h.keep fun k hin => by
  by_cases hg : k = g
  ·subst hg
   exact hk k _ _ _ h.cells rfl
  ·unfold b3 at hin
   rcases List.mem_append.1 hin with hin | hin
   ·obtain ⟨cs, t, h1, h2⟩ := h.p.typed hin hg
    exact hk k cs t _ h1 (by rcases h2 with rfl | rfl <;> rfl)
   ·rcases List.mem_append.1 hin with hin | hin
    ·obtain ⟨cs, t, h1, h2⟩ := h.a.typed hin hg
     exact hk k cs t _ h1 (by rcases h2 with rfl | rfl <;> rfl)
    ·obtain ⟨cs, t, h1, h2⟩ := h.s.typed hin hg
     exact hk k cs t _ h1 (by rcases h2 with rfl | rfl <;> rfl)
/-- The three beside each other, all of it made behind B. -/
structure Pl (B r x g : Nat) (st : Rf) (s8 : R8) (bc : Array Value) (tp wp ta wa ts ws : Value) (Lp : List (KRow Party)) (La : List (KRow Account)) (Ls : List (KRow Asset)) (w : World) : Prop where
 ref : RefAt r st w
 low : Lows B r w
 dat : R8At x s8 w
 bk : Bk3 g bc tp wp ta wa ts ws Lp La Ls w
 br : B ≤ r
 bx : B ≤ x
 bb : ∀ k ∈ b3 g tp wp ta wa ts ws Lp La Ls, B ≤ k
 sz : B ≤ w.heap.size
variable {B r x : Nat} {st st' : Rf} {s8 s8' : R8}
theorem keepR_mv (hm : Mv S S' w w') (ht : ∀ k ∈ S, ∃ cs t fr, w.heap[k]? = some (.cells cs t fr) ∧ t ≠ 82 ∧ t ≠ 106) : KeepR w w' := fun k ob h1 h2 =>
 hm.block k (Array.getElem?_eq_some_iff.1 h1).1 fun hin => by
  obtain ⟨cs, t, fr, h3, h4, h5⟩ := ht k hin
  rw [h1] at h3
  injection h3 with h3
  rcases h2 cs t fr h3 with rfl | rfl
  ·exact h4 rfl
  ·exact h5 rfl
theorem keep8_mv (hm : Mv S S' w w') (ht : ∀ k ∈ S, ∃ cs t fr, w.heap[k]? = some (.cells cs t fr) ∧ t ≠ 39 ∧ ∀ u ∈ cs.toList, (∀ s, u ≠ Value.string s) ∧ ∀ z, u ≠ Value.int .i64 z) : Keep8 w w' := ⟨hm.size, fun k cs t fr h1 h2 =>
 hm.block k (Array.getElem?_eq_some_iff.1 h1).1 fun hin => by
  obtain ⟨cs', t', fr', h3, h4, h5⟩ := ht k hin
  rw [h1] at h3
  injection h3 with h3
  injection h3 with h3 h6 _
  subst h3 h6
  rcases h2 with rfl | ⟨u, hu, ⟨s, rfl⟩ | ⟨z, rfl⟩⟩
  ·exact h4 rfl
  ·exact (h5 _ hu).1 s rfl
  ·exact (h5 _ hu).2 z rfl⟩
theorem keepB_mv (hm : Mv S S' w w') (ht : ∀ k ∈ S, ∃ cs t fr, w.heap[k]? = some (.cells cs t fr) ∧ bkType t = false) : KeepB w w' := fun k cs t fr h1 h2 =>
 hm.block k (Array.getElem?_eq_some_iff.1 h1).1 fun hin => by
  obtain ⟨cs', t', fr', h3, h4⟩ := ht k hin
  rw [h1] at h3
  injection h3 with h3
  injection h3 with _ h6 _
  subst h6
  rw [h2] at h4
  cases h4
theorem Pl.below (h : Pl B r x g st s8 bc tp wp ta wa ts ws Lp La Ls w) (hb : Below w.heap.size w w') : Pl B r x g st s8 bc tp wp ta wa ts ws Lp La Ls w' :=
 ⟨h.ref.below hb, h.low.below hb, h.dat.below hb, h.bk.below hb, h.br, h.bx, h.bb, Nat.le_trans h.sz hb.size⟩
theorem Pl.drewN (h : Pl B r x g st s8 bc tp wp ta wa ts ws Lp La Ls w) (n : Nat) : Pl B r x g st s8 bc tp wp ta wa ts ws Lp La Ls (w.drewN n) := h.below (drewN_below (Below.refl _ _) n)
/-- The program's data changed in their own block. -/
theorem Pl.refMv (h : Pl B r x g st s8 bc tp wp ta wa ts ws Lp La Ls w) (hm : MvL r w w') (hr : RefAt r st' w') : Pl B r x g st' s8 bc tp wp ta wa ts ws Lp La Ls w' ∧ Below B w w' := by
 obtain ⟨c, p, a, s, h1⟩ := h.ref.heap
 refine ⟨⟨hr, hm.lows B h.sz h.low, h.dat.keep8 (keep8_mv hm.mv fun k hk => ?_), h.bk.keepB (keepB_mv hm.mv fun k hk => ?_), h.br, h.bx, h.bb, Nat.le_trans h.sz hm.mv.size⟩, hm.mv.below (by simpa using h.br) h.sz⟩
 ·obtain rfl : k = r := by simpa using hk
  refine ⟨_, _, _, h1, by decide, fun u hu => ?_⟩
  simp only [List.mem_cons, List.not_mem_nil, or_false] at hu
  rcases hu with rfl | rfl | rfl | rfl <;> exact ⟨fun _ e => (by cases e), fun _ e => (by cases e)⟩
 ·obtain rfl : k = r := by simpa using hk
  exact ⟨_, _, _, h1, rfl⟩
/-- The program's calendar changed. -/
theorem Pl.calMv (h : Pl B r x g st s8 bc tp wp ta wa ts ws Lp La Ls w) {c b : Nat} (hc : w.heap[c]? = some (.cells #[.map (some b)] 106 (0, 0))) (hcB : B ≤ c) (hm : Mv [c] [c] w w') (hr : RefAt r st' w') (hl : Lows B r w') : Pl B r x g st' s8 bc tp wp ta wa ts ws Lp La Ls w' ∧ Below B w w' := by
 refine ⟨⟨hr, hl, h.dat.keep8 (keep8_mv hm fun k hk => ?_), h.bk.keepB (keepB_mv hm fun k hk => ?_), h.br, h.bx, h.bb, Nat.le_trans h.sz hm.size⟩, hm.below (by simpa using hcB) h.sz⟩
 ·obtain rfl : k = c := by simpa using hk
  refine ⟨_, _, _, hc, by decide, fun u hu => ?_⟩
  simp only [List.mem_cons, List.not_mem_nil, or_false] at hu
  subst hu
  exact ⟨fun _ e => (by cases e), fun _ e => (by cases e)⟩
 ·obtain rfl : k = c := by simpa using hk
  exact ⟨_, _, _, hc, rfl⟩
/-- The program's data changed in a map alone. -/
theorem Pl.ck (h : Pl B r x g st s8 bc tp wp ta wa ts ws Lp La Ls w) (hk : CK w w') (hr : RefAt r st' w') (hl : Lows B r w') (hb : Below B w w') : Pl B r x g st' s8 bc tp wp ta wa ts ws Lp La Ls w' :=
 ⟨hr, hl, h.dat.keep8 ⟨hb.size, fun k cs t fr h1 _ => (hk k cs t fr h1).trans h1.symm⟩, h.bk.keepB (fun k cs t fr h1 _ => (hk k cs t fr h1).trans h1.symm), h.br, h.bx, h.bb, Nat.le_trans h.sz hb.size⟩
/-- The document's data changed. -/
theorem Pl.datMv (h : Pl B r x g st s8 bc tp wp ta wa ts ws Lp La Ls w) (hm : Mv [x] [x] w w') (hx : R8At x s8' w') : Pl B r x g st s8' bc tp wp ta wa ts ws Lp La Ls w' ∧ Below B w w' := by
 obtain ⟨cs, h1⟩ := h.dat.heap
 have kr : KeepR w w' := keepR_mv hm fun k hk => by
  obtain rfl : k = x := by simpa using hk
  exact ⟨_, _, _, h1, by decide, by decide⟩
 refine ⟨⟨h.ref.keepR kr, h.low.keepR kr, hx, h.bk.keepB (keepB_mv hm fun k hk => ?_), h.br, h.bx, h.bb, Nat.le_trans h.sz hm.size⟩, hm.below (by simpa using h.bx) h.sz⟩
 obtain rfl : k = x := by simpa using hk
 exact ⟨_, _, _, h1, rfl⟩
/-- The blocks that one more kept list writes into. -/
theorem head_slices {E : Type} {ec : E → List Value} {sz : Nat} {te tr : TypeId} {off : Nat} {tv wv : Value} {L : List (KRow E)} (h : KAt ec sz te tr off g bc tv wv L w) (hs : ∀ u ∈ bc.toList, slB u) {k : Nat} (hk : k ∈ g :: tv.ownBlock.toList ++ wv.ownBlock.toList) :
  ∃ cs t fr, w.heap[k]? = some (.cells cs t fr) ∧ (t = 61 ∨ t = tr) ∧ ∀ u ∈ cs.toList, slB u := by
 simp only [List.cons_append, List.mem_cons, List.mem_append, Option.mem_toList] at hk
 rcases hk with rfl | hk | hk
 ·exact ⟨_, _, _, h.cells, .inl rfl, hs⟩
 ·obtain ⟨cs, h1⟩ := own_typed h.ot hk
  exact ⟨cs, _, _, h1, .inr rfl, h.qt k hk cs _ _ h1⟩
 ·obtain ⟨cs, h1⟩ := own_typed h.ow hk
  exact ⟨cs, _, _, h1, .inr rfl, h.qw k hk cs _ _ h1⟩
theorem add_keeps {E : Type} {ec : E → List Value} {sz : Nat} {te tr : TypeId} {off : Nat} {tv wv : Value} {L : List (KRow E)} (h : KAt ec sz te tr off g bc tv wv L w) (hs : ∀ u ∈ bc.toList, slB u) (hm : Mv (g :: tv.ownBlock.toList ++ wv.ownBlock.toList) S' w w')
  (h1 : tr ≠ 82) (h2 : tr ≠ 106) (h3 : tr ≠ 39) : KeepR w w' ∧ Keep8 w w' := by
 refine ⟨keepR_mv hm fun k hk => ?_, keep8_mv hm fun k hk => ?_⟩
 ·obtain ⟨cs, t, fr, h4, h5, _⟩ := head_slices h hs hk
  refine ⟨cs, t, fr, h4, ?_⟩
  rcases h5 with rfl | rfl
  ·exact ⟨by decide, by decide⟩
  ·exact ⟨h1, h2⟩
 ·obtain ⟨cs, t, fr, h4, h5, h6⟩ := head_slices h hs hk
  refine ⟨cs, t, fr, h4, ?_, fun u hu => ?_⟩
  ·rcases h5 with rfl | rfl
   ·decide
   ·exact h3
  ·obtain ⟨A, n, c, rfl⟩ := h6 u hu
   exact ⟨fun _ e => (by cases e), fun _ e => (by cases e)⟩
theorem bb_add {E : Type} {tv wv tv' wv' v m : Value} {L : List (KRow E)} {ss : List E} (hB : B ≤ w.heap.size) (hm : Mv (g :: tv.ownBlock.toList ++ wv.ownBlock.toList) (g :: tv'.ownBlock.toList ++ wv'.ownBlock.toList) w w') (hb : ∀ k ∈ bkBlocks g tv wv L, B ≤ k)
  (hv : ∀ k, v.ownBlock = some k → B ≤ k) (hmm : ∀ k, m.ownBlock = some k → B ≤ k) : ∀ k ∈ bkBlocks g tv' wv' (L ++ [⟨v, ss, m, ss⟩]), B ≤ k := by
 intro k hk
 have hl : ∀ k, k ∈ g :: tv'.ownBlock.toList ++ wv'.ownBlock.toList → B ≤ k := fun k hk => (hm.link k hk).elim (fun h => hb k (mem_head h)) (fun h => by omega)
 rcases mem_bk.1 hk with rfl | hk | hk | hk
 ·exact hl _ (by simp)
 ·exact hl _ (by simp [hk])
 ·exact hl _ (by simp [hk])
 ·rw [rowBlocks_snoc, List.mem_append] at hk
  rcases hk with hk | hk
  ·exact hb k (mem_bk.2 (.inr (.inr (.inr hk))))
  ·unfold KRow.blocks at hk
   simp only [List.mem_append, Option.mem_toList] at hk
   exact hk.elim (hv k) (hmm k)
theorem b3_all {tp wp ta wa ts ws : Value} {Lp : List (KRow Party)} {La : List (KRow Account)} {Ls : List (KRow Asset)} (h1 : ∀ k ∈ bkBlocks g tp wp Lp, B ≤ k) (h2 : ∀ k ∈ bkBlocks g ta wa La, B ≤ k) (h3 : ∀ k ∈ bkBlocks g ts ws Ls, B ≤ k) : ∀ k ∈ b3 g tp wp ta wa ts ws Lp La Ls, B ≤ k := fun k hk => by
 unfold b3 at hk
 rcases List.mem_append.1 hk with h | h
 ·exact h1 k h
 ·rcases List.mem_append.1 h with h | h
  ·exact h2 k h
  ·exact h3 k h
theorem b3_p {tp wp ta wa ts ws : Value} {Lp : List (KRow Party)} {La : List (KRow Account)} {Ls : List (KRow Asset)} (h : ∀ k ∈ b3 g tp wp ta wa ts ws Lp La Ls, B ≤ k) : (∀ k ∈ bkBlocks g tp wp Lp, B ≤ k) ∧ (∀ k ∈ bkBlocks g ta wa La, B ≤ k) ∧ ∀ k ∈ bkBlocks g ts ws Ls, B ≤ k :=
 ⟨fun k hk => h k (by unfold b3; simp [hk]), fun k hk => h k (by unfold b3; simp [hk]), fun k hk => h k (by unfold b3; simp [hk])⟩
theorem Pl.addP (h : Pl B r x g st s8 bc tp wp ta wa ts ws Lp La Ls w) {tp' wp' v m : Value} {ss : List Party} (hp : KPa.At g ((bc.setIfInBounds 8 tp').setIfInBounds 9 wp') tp' wp' (Lp ++ [⟨v, ss, m, ss⟩]) w') (hm : Mv (g :: tp.ownBlock.toList ++ wp.ownBlock.toList) (g :: tp'.ownBlock.toList ++ wp'.ownBlock.toList) w w')
  (hv : ∀ k, v.ownBlock = some k → B ≤ k) (hmm : ∀ k, m.ownBlock = some k → B ≤ k) :
  Pl B r x g st s8 ((bc.setIfInBounds 8 tp').setIfInBounds 9 wp') tp' wp' ta wa ts ws (Lp ++ [⟨v, ss, m, ss⟩]) La Ls w' ∧ Below B w w' := by
 obtain ⟨k1, k2⟩ := add_keeps h.bk.p h.bk.slices hm (by decide) (by decide) (by decide)
 obtain ⟨h1, h2, h3⟩ := b3_p h.bb
 exact ⟨⟨h.ref.keepR k1, h.low.keepR k1, h.dat.keep8 k2, h.bk.addP hp hm, h.br, h.bx, b3_all (bb_add h.sz hm h1 hv hmm) h2 h3, Nat.le_trans h.sz hm.size⟩, hm.below (fun k hk => h1 k (mem_head hk)) h.sz⟩
theorem Pl.addA (h : Pl B r x g st s8 bc tp wp ta wa ts ws Lp La Ls w) {ta' wa' v m : Value} {ss : List Account} (hp : KAc.At g ((bc.setIfInBounds 10 ta').setIfInBounds 11 wa') ta' wa' (La ++ [⟨v, ss, m, ss⟩]) w') (hm : Mv (g :: ta.ownBlock.toList ++ wa.ownBlock.toList) (g :: ta'.ownBlock.toList ++ wa'.ownBlock.toList) w w')
  (hv : ∀ k, v.ownBlock = some k → B ≤ k) (hmm : ∀ k, m.ownBlock = some k → B ≤ k) :
  Pl B r x g st s8 ((bc.setIfInBounds 10 ta').setIfInBounds 11 wa') tp wp ta' wa' ts ws Lp (La ++ [⟨v, ss, m, ss⟩]) Ls w' ∧ Below B w w' := by
 obtain ⟨k1, k2⟩ := add_keeps h.bk.a h.bk.slices hm (by decide) (by decide) (by decide)
 obtain ⟨h1, h2, h3⟩ := b3_p h.bb
 exact ⟨⟨h.ref.keepR k1, h.low.keepR k1, h.dat.keep8 k2, h.bk.addA hp hm, h.br, h.bx, b3_all h1 (bb_add h.sz hm h2 hv hmm) h3, Nat.le_trans h.sz hm.size⟩, hm.below (fun k hk => h2 k (mem_head hk)) h.sz⟩
theorem Pl.addS (h : Pl B r x g st s8 bc tp wp ta wa ts ws Lp La Ls w) {ts' ws' v m : Value} {ss : List Asset} (hp : KAs.At g ((bc.setIfInBounds 12 ts').setIfInBounds 13 ws') ts' ws' (Ls ++ [⟨v, ss, m, ss⟩]) w') (hm : Mv (g :: ts.ownBlock.toList ++ ws.ownBlock.toList) (g :: ts'.ownBlock.toList ++ ws'.ownBlock.toList) w w')
  (hv : ∀ k, v.ownBlock = some k → B ≤ k) (hmm : ∀ k, m.ownBlock = some k → B ≤ k) :
  Pl B r x g st s8 ((bc.setIfInBounds 12 ts').setIfInBounds 13 ws') tp wp ta wa ts' ws' Lp La (Ls ++ [⟨v, ss, m, ss⟩]) w' ∧ Below B w w' := by
 obtain ⟨k1, k2⟩ := add_keeps h.bk.s h.bk.slices hm (by decide) (by decide) (by decide)
 obtain ⟨h1, h2, h3⟩ := b3_p h.bb
 exact ⟨⟨h.ref.keepR k1, h.low.keepR k1, h.dat.keep8 k2, h.bk.addS hp hm, h.br, h.bx, b3_all h1 h2 (bb_add h.sz hm h3 hv hmm), Nat.le_trans h.sz hm.size⟩, hm.below (fun k hk => h3 k (mem_head hk)) h.sz⟩
end
end Go.Proofs.YtnpkplegeddhcaaGreat
