/-
 A book that keeps parties, accounts and assets, each kind beside the others.
 Conditions: lists that nobody else holds.
-/
import Derived.Test.YtnpkplegeddhcaaGreatKbPaL
import Derived.Test.YtnpkplegeddhcaaGreatKbAcL
import Derived.Test.YtnpkplegeddhcaaGreatKbAsL
namespace Go.Proofs.YtnpkplegeddhcaaGreat
open Go.RowKit Kb
set_option maxRecDepth 100000
namespace Kb
theorem own_typed {w : World} {B : Nat} {e : TypeId} {size : Nat} {v : Value} {n : Nat} {xs : List Value} (h : w.ownsRow B e size v n xs) {k : Nat} (hk : v.ownBlock = some k) : ∃ cs, w.heap[k]? = some (.cells cs e (0, 0)) := by
 rcases h.2 with ⟨rfl, _⟩ | ⟨g, cap, cur, rfl, _, hg, _⟩
 ·simp [Value.ownBlock] at hk
 ·obtain rfl : g = k := by simpa [Value.ownBlock] using hk
  exact ⟨cur, hg⟩
theorem Mv.wide {S T T' : List Nat} {w w' : World} (h : Mv T T' w w') (hT : ∀ k ∈ T, k ∈ S) : Mv S S w w' := ⟨h.os, h.tape, h.output, h.size, fun k hk hn => h.block k hk (fun h' => hn (hT k h')), fun _ h => .inl h⟩
section
variable {E E' : Type} {ec : E → List Value} {ec' : E' → List Value} {sz sz' : Nat} {te tr te' tr' : TypeId} {off off' : Nat} {mk : ByteArray → E} {bc : Array Value} {g : Nat} {tv wv tv' wv' : Value} {L : List (KRow E)} {L' : List (KRow E')} {w w' : World}
theorem KAt.typed (h : KAt ec sz te tr off g bc tv wv L w) {k : Nat} (hk : k ∈ bkBlocks g tv wv L) (hg : k ≠ g) : ∃ cs t, w.heap[k]? = some (.cells cs t (0, 0)) ∧ (t = te ∨ t = tr) := by
 rcases mem_bk.1 hk with rfl | hk | hk | hk
 ·exact absurd rfl hg
 ·obtain ⟨cs, h1⟩ := own_typed h.ot hk
  exact ⟨cs, _, h1, .inr rfl⟩
 ·obtain ⟨cs, h1⟩ := own_typed h.ow hk
  exact ⟨cs, _, h1, .inr rfl⟩
 ·obtain ⟨r, hr, hk⟩ := List.mem_flatMap.1 hk
  unfold KRow.blocks at hk
  simp only [List.mem_append, Option.mem_toList] at hk
  rcases hk with hk | hk
  ·obtain ⟨cs, h1⟩ := own_typed (h.rows r hr).v hk
   exact ⟨cs, _, h1, .inl rfl⟩
  ·obtain ⟨cs, h1⟩ := own_typed (h.rows r hr).m hk
   exact ⟨cs, _, h1, .inl rfl⟩
/-- A block of another type is none of the book's of this kind. -/
theorem KAt.off_type (h : KAt ec sz te tr off g bc tv wv L w) {k : Nat} {cs : Array Value} {t : TypeId} {fr : Nat × Nat} (hk : w.heap[k]? = some (.cells cs t fr)) (h1 : t ≠ te) (h2 : t ≠ tr) (h3 : t ≠ 61) : k ∉ bkBlocks g tv wv L := by
 intro hin
 by_cases hg : k = g
 ·subst hg
  rw [h.cells] at hk
  injection hk with hk
  injection hk with _ hk _
  exact h3 hk.symm
 ·obtain ⟨cs', t', h4, h5⟩ := h.typed hin hg
  rw [h4] at hk
  injection hk with hk
  injection hk with _ hk _
  rcases h5 with rfl | rfl
  ·exact h1 hk.symm
  ·exact h2 hk.symm
theorem KAt.apart (h : KAt ec sz te tr off g bc tv wv L w) (h' : KAt ec' sz' te' tr' off' g bc tv' wv' L' w) (h1 : te ≠ te') (h2 : te ≠ tr') (h3 : tr ≠ te') (h4 : tr ≠ tr') (h5 : te ≠ 61) (h6 : tr ≠ 61) {k : Nat} (hk : k ∈ bkBlocks g tv wv L) (hg : k ≠ g) : k ∉ bkBlocks g tv' wv' L' := by
 obtain ⟨cs, t, h7, h8⟩ := h.typed hk hg
 rcases h8 with rfl | rfl
 ·exact h'.off_type h7 h1 h2 h5
 ·exact h'.off_type h7 h3 h4 h6
/-- The lists grown of one kind, while another kind's blocks change. -/
theorem Grown.beside {Lx : List (KRow E)} {G : List (Value × List E)} {B : Nat} (hG : Grown ec sz te mk Lx G B w) (h' : KAt ec' sz' te' tr' off' g bc tv' wv' L' w) {S' : List Nat} (hm : Mv (bkBlocks g tv' wv' L') S' w w') (h1 : te ≠ te') (h2 : te ≠ tr') (h3 : te ≠ 61) : Grown ec sz te mk Lx G B w' :=
 hG.keep fun j r hr q hq => by
  have ho := hG.own r (List.mem_of_getElem? hr)
  obtain ⟨cs, hc⟩ := own_typed ho hq
  exact hm.block q (ho.lt q hq).2 (h'.off_type hc h1 h2 h3)
theorem own_beside {B n size : Nat} {e : TypeId} {v : Value} {xs : List Value} (ho : w.ownsRow B e size v n xs) (h' : KAt ec' sz' te' tr' off' g bc tv' wv' L' w) {S' : List Nat} (hm : Mv (bkBlocks g tv' wv' L') S' w w') (h1 : e ≠ te') (h2 : e ≠ tr') (h3 : e ≠ 61) : w'.ownsRow B e size v n xs :=
 own_keep' ho fun q hq => by
  obtain ⟨cs, hc⟩ := own_typed ho hq
  exact hm.block q (ho.lt q hq).2 (h'.off_type hc h1 h2 h3)
end
/-- A book of parties, accounts, assets. -/
structure Bk3 (g : Nat) (bc : Array Value) (tp wp ta wa ts ws : Value) (Lp : List (KRow Party)) (La : List (KRow Account)) (Ls : List (KRow Asset)) (w : World) : Prop where
 p : KPa.At g bc tp wp Lp w
 a : KAc.At g bc ta wa La w
 s : KAs.At g bc ts ws Ls w
 rest : ∀ j, j < 34 → (j < 8 ∨ 13 < j) → bc[j]? = some (.slice none 0 0)
def b3 (g : Nat) (tp wp ta wa ts ws : Value) (Lp : List (KRow Party)) (La : List (KRow Account)) (Ls : List (KRow Asset)) : List Nat := bkBlocks g tp wp Lp ++ (bkBlocks g ta wa La ++ bkBlocks g ts ws Ls)
section
variable {g : Nat} {bc : Array Value} {tp wp ta wa ts ws : Value} {Lp Lp' : List (KRow Party)} {La La' : List (KRow Account)} {Ls Ls' : List (KRow Asset)} {w w' : World} {S' : List Nat}
theorem Bk3.keep (h : Bk3 g bc tp wp ta wa ts ws Lp La Ls w) (hb : ∀ k ∈ b3 g tp wp ta wa ts ws Lp La Ls, w'.heap[k]? = w.heap[k]?) : Bk3 g bc tp wp ta wa ts ws Lp La Ls w' :=
 ⟨h.p.keep fun k hk => hb k (by unfold b3; simp [hk]), h.a.keep fun k hk => hb k (by unfold b3; simp [hk]), h.s.keep fun k hk => hb k (by unfold b3; simp [hk]), h.rest⟩
theorem Bk3.there (h : Bk3 g bc tp wp ta wa ts ws Lp La Ls w) : ∀ k ∈ b3 g tp wp ta wa ts ws Lp La Ls, k < w.heap.size := by
 intro k hk
 unfold b3 at hk
 rcases List.mem_append.1 hk with hk | hk
 ·exact h.p.there k hk
 ·rcases List.mem_append.1 hk with hk | hk
  ·exact h.a.there k hk
  ·exact h.s.there k hk
theorem Bk3.below (h : Bk3 g bc tp wp ta wa ts ws Lp La Ls w) (hb : Below w.heap.size w w') : Bk3 g bc tp wp ta wa ts ws Lp La Ls w' := h.keep fun k hk => hb.block k (h.there k hk)
theorem Bk3.drewN (h : Bk3 g bc tp wp ta wa ts ws Lp La Ls w) (n : Nat) : Bk3 g bc tp wp ta wa ts ws Lp La Ls (w.drewN n) := h.keep fun _ _ => rfl
theorem Bk3.cells (h : Bk3 g bc tp wp ta wa ts ws Lp La Ls w) : w.heap[g]? = some (.cells bc 61 (0, 0)) := h.p.cells
theorem Bk3.nil (h : Bk3 g bc tp wp ta wa ts ws Lp La Ls w) (j : Nat) (hj : j < 34) (hj2 : j < 8 ∨ 13 < j) : w.cell? ⟨g, j, none⟩ = some (.slice none 0 0) := h.p.cell (h.rest j hj hj2)
theorem Bk3.stepP (h : Bk3 g bc tp wp ta wa ts ws Lp La Ls w) (hp : KPa.At g bc tp wp Lp' w') (hm : Mv (bkBlocks g tp wp Lp) S' w w') : Bk3 g bc tp wp ta wa ts ws Lp' La Ls w' :=
 ⟨hp, h.a.keep_bc hp.cells hp.siz rfl rfl (fun k hk hg => hm.block k (h.a.there k hk) (h.a.apart h.p (by decide) (by decide) (by decide) (by decide) (by decide) (by decide) hk hg)),
  h.s.keep_bc hp.cells hp.siz rfl rfl (fun k hk hg => hm.block k (h.s.there k hk) (h.s.apart h.p (by decide) (by decide) (by decide) (by decide) (by decide) (by decide) hk hg)), h.rest⟩
theorem Bk3.stepA (h : Bk3 g bc tp wp ta wa ts ws Lp La Ls w) (hp : KAc.At g bc ta wa La' w') (hm : Mv (bkBlocks g ta wa La) S' w w') : Bk3 g bc tp wp ta wa ts ws Lp La' Ls w' :=
 ⟨h.p.keep_bc hp.cells hp.siz rfl rfl (fun k hk hg => hm.block k (h.p.there k hk) (h.p.apart h.a (by decide) (by decide) (by decide) (by decide) (by decide) (by decide) hk hg)), hp,
  h.s.keep_bc hp.cells hp.siz rfl rfl (fun k hk hg => hm.block k (h.s.there k hk) (h.s.apart h.a (by decide) (by decide) (by decide) (by decide) (by decide) (by decide) hk hg)), h.rest⟩
theorem Bk3.stepS (h : Bk3 g bc tp wp ta wa ts ws Lp La Ls w) (hp : KAs.At g bc ts ws Ls' w') (hm : Mv (bkBlocks g ts ws Ls) S' w w') : Bk3 g bc tp wp ta wa ts ws Lp La Ls' w' :=
 ⟨h.p.keep_bc hp.cells hp.siz rfl rfl (fun k hk hg => hm.block k (h.p.there k hk) (h.p.apart h.s (by decide) (by decide) (by decide) (by decide) (by decide) (by decide) hk hg)),
  h.a.keep_bc hp.cells hp.siz rfl rfl (fun k hk hg => hm.block k (h.a.there k hk) (h.a.apart h.s (by decide) (by decide) (by decide) (by decide) (by decide) (by decide) hk hg)), hp, h.rest⟩
theorem set2_other {bc : Array Value} {o j : Nat} {u v : Value} (h1 : j ≠ o) (h2 : j ≠ o + 1) : ((bc.setIfInBounds o u).setIfInBounds (o + 1) v)[j]? = bc[j]? := by
 rw [Array.getElem?_setIfInBounds_ne (by omega), Array.getElem?_setIfInBounds_ne (by omega)]
theorem mem_head {g k : Nat} {tv wv : Value} {E : Type} {L : List (KRow E)} (h : k ∈ g :: tv.ownBlock.toList ++ wv.ownBlock.toList) : k ∈ bkBlocks g tv wv L := by
 rw [mem_bk]
 simp only [List.cons_append, List.mem_cons, List.mem_append, Option.mem_toList] at h
 rcases h with h | h | h
 ·exact .inl h
 ·exact .inr (.inl h)
 ·exact .inr (.inr (.inl h))
theorem Bk3.addP (h : Bk3 g bc tp wp ta wa ts ws Lp La Ls w) {tp' wp' : Value} (hp : KPa.At g ((bc.setIfInBounds 8 tp').setIfInBounds 9 wp') tp' wp' Lp' w') (hm : Mv (g :: tp.ownBlock.toList ++ wp.ownBlock.toList) S' w w') : Bk3 g ((bc.setIfInBounds 8 tp').setIfInBounds 9 wp') tp' wp' ta wa ts ws Lp' La Ls w' :=
 ⟨hp, h.a.keep_bc hp.cells hp.siz (set2_other (by decide) (by decide)) (set2_other (by decide) (by decide)) (fun k hk hg => hm.block k (h.a.there k hk) (fun e => h.a.apart h.p (by decide) (by decide) (by decide) (by decide) (by decide) (by decide) hk hg (mem_head e))),
  h.s.keep_bc hp.cells hp.siz (set2_other (by decide) (by decide)) (set2_other (by decide) (by decide)) (fun k hk hg => hm.block k (h.s.there k hk) (fun e => h.s.apart h.p (by decide) (by decide) (by decide) (by decide) (by decide) (by decide) hk hg (mem_head e))),
  fun j h1 h2 => (set2_other (by omega) (by omega)).trans (h.rest j h1 h2)⟩
theorem Bk3.addA (h : Bk3 g bc tp wp ta wa ts ws Lp La Ls w) {ta' wa' : Value} (hp : KAc.At g ((bc.setIfInBounds 10 ta').setIfInBounds 11 wa') ta' wa' La' w') (hm : Mv (g :: ta.ownBlock.toList ++ wa.ownBlock.toList) S' w w') : Bk3 g ((bc.setIfInBounds 10 ta').setIfInBounds 11 wa') tp wp ta' wa' ts ws Lp La' Ls w' :=
 ⟨h.p.keep_bc hp.cells hp.siz (set2_other (by decide) (by decide)) (set2_other (by decide) (by decide)) (fun k hk hg => hm.block k (h.p.there k hk) (fun e => h.p.apart h.a (by decide) (by decide) (by decide) (by decide) (by decide) (by decide) hk hg (mem_head e))), hp,
  h.s.keep_bc hp.cells hp.siz (set2_other (by decide) (by decide)) (set2_other (by decide) (by decide)) (fun k hk hg => hm.block k (h.s.there k hk) (fun e => h.s.apart h.a (by decide) (by decide) (by decide) (by decide) (by decide) (by decide) hk hg (mem_head e))),
  fun j h1 h2 => (set2_other (by omega) (by omega)).trans (h.rest j h1 h2)⟩
theorem Bk3.addS (h : Bk3 g bc tp wp ta wa ts ws Lp La Ls w) {ts' ws' : Value} (hp : KAs.At g ((bc.setIfInBounds 12 ts').setIfInBounds 13 ws') ts' ws' Ls' w') (hm : Mv (g :: ts.ownBlock.toList ++ ws.ownBlock.toList) S' w w') : Bk3 g ((bc.setIfInBounds 12 ts').setIfInBounds 13 ws') tp wp ta wa ts' ws' Lp La Ls' w' :=
 ⟨h.p.keep_bc hp.cells hp.siz (set2_other (by decide) (by decide)) (set2_other (by decide) (by decide)) (fun k hk hg => hm.block k (h.p.there k hk) (fun e => h.p.apart h.s (by decide) (by decide) (by decide) (by decide) (by decide) (by decide) hk hg (mem_head e))),
  h.a.keep_bc hp.cells hp.siz (set2_other (by decide) (by decide)) (set2_other (by decide) (by decide)) (fun k hk hg => hm.block k (h.a.there k hk) (fun e => h.a.apart h.s (by decide) (by decide) (by decide) (by decide) (by decide) (by decide) hk hg (mem_head e))), hp,
  fun j h1 h2 => (set2_other (by omega) (by omega)).trans (h.rest j h1 h2)⟩
theorem bkBlocks_of {E : Type} {g : Nat} {tv wv : Value} {L L' : List (KRow E)} (h : rowBlocks L' = rowBlocks L) : bkBlocks g tv wv L' = bkBlocks g tv wv L := by unfold bkBlocks; rw [h]
/-- The book's own cells are slices. -/
theorem Bk3.slices (h : Bk3 g bc tp wp ta wa ts ws Lp La Ls w) : ∀ u ∈ bc.toList, slB u := by
 intro u hu
 obtain ⟨j, hj⟩ := List.mem_iff_getElem?.1 hu
 rw [Array.getElem?_toList] at hj
 have hlt : j < 34 := by have := (Array.getElem?_eq_some_iff.1 hj).1; have := h.p.siz; omega
 have hsl : ∀ {B n : Nat} {e : TypeId} {v : Value} {xs : List Value}, w.ownsRow B e 1 v n xs → bc[j]? = some v → slB u := fun ho hv => by
  rw [hv] at hj
  injection hj with hj
  subst hj
  obtain ⟨A, c, e, _⟩ := own_form ho
  exact ⟨_, _, _, e⟩
 rcases (show (j < 8 ∨ 13 < j) ∨ j = 8 ∨ j = 9 ∨ j = 10 ∨ j = 11 ∨ j = 12 ∨ j = 13 by omega) with h1 | rfl | rfl | rfl | rfl | rfl | rfl
 ·rw [h.rest j hlt h1] at hj
  injection hj with hj
  exact ⟨_, _, _, hj.symm⟩
 ·exact hsl h.p.ot h.p.c0
 ·exact hsl h.p.ow h.p.c1
 ·exact hsl h.a.ot h.a.c0
 ·exact hsl h.a.ow h.a.c1
 ·exact hsl h.s.ot h.s.c0
 ·exact hsl h.s.ow h.s.c1
end
end Kb
end Go.Proofs.YtnpkplegeddhcaaGreat
