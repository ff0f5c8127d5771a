/-
  The document's disk (complineref5.Disk) in memory; find, op, good, New, Read, Files as contracts.
  Conditions: each lemma's own premises.
-/
import Derived.Test.YtfmbadinfhpihaaGreatRowK
import Derived.Test.YtfmbadinfhpihaaGreatD5Agree
set_option linter.unusedVariables false
set_option linter.unusedSimpArgs false
namespace Go.Proofs.YtfmbadinfhpihaaGreat
open Go.RowKit Go.Maps
attribute [local go_sem ↓] Go.wp_at_zero Go.wp_at_succ
set_option maxRecDepth 100000

theorem csF (y : Fl) : (Kd.val y).cells.size = 3 := rfl
theorem oneF5 (y : Fl) : ∀ u ∈ (Kd.val y).cells.toList, u.oneCell' = true := by
  intro u hu
  have h : u ∈ [.string y.name, .string y.data, .int .i64 y.safe] := hu
  simp only [List.mem_cons, List.not_mem_nil, or_false] at h
  rcases h with rfl | rfl | rfl <;> rfl
theorem infoT5 : (Tryz.prog.info? 9).map (fun i => (i.zero, i.size, i.bytes)) = some (some (.string ⟨#[]⟩), 1, 16) := by kernel_rfl
theorem infoF : (Tryz.prog.info? 121).map (fun i => (i.zero.map (·.cells.size), i.size, i.bytes)) = some (some 3, 3, 40) := by kernel_rfl
theorem sizeF5 : (Tryz.prog.info? 121).map (·.size) = some 3 := by kernel_rfl
/-- The document's disk in block x; S are its blocks. -/
def D5At (x : Nat) (S : List Nat) (r : D5) (w : World) : Prop :=
  ∃ v, S = x :: v.ownBlock.toList ∧ w.heap[x]? = some (.cells #[.bool r.on, v, .int .i64 r.ops, .int .i64 r.fuse] 91 (0, 0)) ∧ w.ownsRow 0 121 3 v r.l.length (cellsOf r.l) ∧ v.ownBlock ≠ some x
section
variable {x : Nat} {S T T' : List Nat} {r : D5} {w w' : World}
theorem D5At.own (h : D5At x S r w) : x ∈ S := by obtain ⟨v, rfl, _⟩ := h; simp
theorem D5At.keep (h : D5At x S r w) (hb : ∀ k, k ∈ S → w'.heap[k]? = w.heap[k]?) : D5At x S r w' := by
  obtain ⟨v, rfl, h2, h3, h4⟩ := h
  exact ⟨v, rfl, by rw [hb x (by simp)]; exact h2, own_keep' h3 (fun k hk => hb k (by simp [hk])), h4⟩
theorem D5At.lt (h : D5At x S r w) : x < w.heap.size := by obtain ⟨v, _, h2, _⟩ := h; exact Blk.lt h2
theorem D5At.there (h : D5At x S r w) : ∀ k, k ∈ S → k < w.heap.size := by
  have h1 := h.lt
  obtain ⟨v, rfl, h2, h3, h4⟩ := h
  intro k hk
  simp only [List.mem_cons, Option.mem_toList] at hk
  rcases hk with rfl | hk
  · exact h1
  · exact (h3.lt k hk).2
theorem D5At.drewN (h : D5At x S r w) (n : Nat) : D5At x S r (w.drewN n) := h
theorem D5At.below (h : D5At x S r w) (hb : Below w.heap.size w w') : D5At x S r w' := h.keep fun k hk => hb.block k (h.there k hk)
theorem D5At.alloc (h : D5At x S r w) (o : Obj) : D5At x S r (w.alloc o) := h.keep fun k hk => Below.heap_alloc w o k (h.there k hk)
theorem D5At.aside (h : D5At x S r w) (hm : Mv T T' w w') (ha : ∀ k, k ∈ S → k ∉ T) : D5At x S r w' := h.keep fun k hk => hm.block k (h.there k hk) (ha k hk)
theorem D5At.frozen (h : D5At x S r w) (i : Nat) : w.frozen? ⟨x, i, none⟩ = false := by obtain ⟨v, _, hb, _⟩ := h; exact Lib.frozen_of_heap hb i
theorem D5At.cell0 (h : D5At x S r w) : w.cell? ⟨x, 0, none⟩ = some (.bool r.on) := by obtain ⟨v, _, h2, _⟩ := h; rw [Lib.cell_of_heap h2]; rfl
theorem D5At.cell2 (h : D5At x S r w) : w.cell? ⟨x, 2, none⟩ = some (.int .i64 r.ops) := by obtain ⟨v, _, h2, _⟩ := h; rw [Lib.cell_of_heap h2]; rfl
theorem D5At.cell3 (h : D5At x S r w) : w.cell? ⟨x, 3, none⟩ = some (.int .i64 r.fuse) := by obtain ⟨v, _, h2, _⟩ := h; rw [Lib.cell_of_heap h2]; rfl
theorem D5At.row (h : D5At x S r w) : ∃ A c, w.cell? ⟨x, 1, none⟩ = some (.slice A r.l.length c) ∧ r.l.length ≤ c ∧ RowsAt w w.heap.size A 3 r.l := by
  obtain ⟨v, _, h2, h3, _⟩ := h
  obtain ⟨A, c, rfl, h5, h6, _⟩ := rows_own h3 rfl (fun y _ => csF y)
  exact ⟨A, c, by rw [Lib.cell_of_heap h2]; rfl, h5, h6⟩
theorem D5At.set0 (h : D5At x S r w) (b : Bool) : D5At x S ⟨b, r.l, r.ops, r.fuse⟩ (w.setCell ⟨x, 0, none⟩ (.bool b)) := by
  obtain ⟨v, rfl, h2, h3, h4⟩ := h
  exact ⟨v, rfl, Blk.set_ (show Blk w x 91 _ from h2) 0 _, own_keep' h3 (fun k hk => Below.heap_setCell _ _ _ _ (fun e => h4 (by rw [hk]; exact congrArg some e))), h4⟩
theorem D5At.set2 (h : D5At x S r w) (n : Int) : D5At x S ⟨r.on, r.l, n, r.fuse⟩ (w.setCell ⟨x, 2, none⟩ (.int .i64 n)) := by
  obtain ⟨v, rfl, h2, h3, h4⟩ := h
  exact ⟨v, rfl, Blk.set_ (show Blk w x 91 _ from h2) 2 _, own_keep' h3 (fun k hk => Below.heap_setCell _ _ _ _ (fun e => h4 (by rw [hk]; exact congrArg some e))), h4⟩
theorem D5At.set3 (h : D5At x S r w) (n : Int) : D5At x S ⟨r.on, r.l, r.ops, n⟩ (w.setCell ⟨x, 3, none⟩ (.int .i64 n)) := by
  obtain ⟨v, rfl, h2, h3, h4⟩ := h
  exact ⟨v, rfl, Blk.set_ (show Blk w x 91 _ from h2) 3 _, own_keep' h3 (fun k hk => Below.heap_setCell _ _ _ _ (fun e => h4 (by rw [hk]; exact congrArg some e))), h4⟩
/-- The list turned: a row of its own that is not the disk's block. -/
theorem D5At.setL (h : D5At x S r w) {v : Value} {l : List Fl} {base n : Nat} (ho : w.ownsRow base 121 3 v n (cellsOf l)) (hl : l.length = n) (hb : x < base) : D5At x (x :: v.ownBlock.toList) (r.with l) (w.setCell ⟨x, 1, none⟩ v) := by
  subst hl
  have hn : v.ownBlock ≠ some x := fun e => by have := (ho.lt x e).1; omega
  have ho' : w.ownsRow 0 121 3 v l.length (cellsOf l) := by
    refine ⟨ho.1, ?_⟩
    rcases ho.2 with h | ⟨g, cap, cur, e, hbg, rest⟩
    · exact .inl h
    · exact .inr ⟨g, cap, cur, e, Nat.zero_le _, rest⟩
  obtain ⟨v0, rfl, h2, h3, h4⟩ := h
  exact ⟨v, rfl, Blk.set_ (show Blk w x 91 _ from h2) 1 _, own_keep' ho' (fun k hk => Below.heap_setCell _ _ _ _ (fun e => hn (by rw [hk]; exact congrArg some e))), hn⟩
end
/-- What turned, where a new row stands in the disk's cell. -/
theorem mv_row {x : Nat} {S : List Nat} {w w1 : World} {v : Value} (hx : x ∈ S) (hb : Below w.heap.size w w1) (hv : ∀ k, v.ownBlock = some k → w.heap.size ≤ k) (i : Nat) : Mv S (x :: v.ownBlock.toList) w (w1.setCell ⟨x, i, none⟩ v) := by
  refine ⟨hb.os, hb.tape, hb.output, by rw [show (w1.setCell ⟨x, i, none⟩ v).heap.size = w1.heap.size by simp [World.setCell]]; exact hb.size, fun k hk hn => ?_, fun k hk => ?_⟩
  · exact (Below.heap_setCell _ _ _ _ (fun e => hn (by rw [e]; exact hx))).trans (hb.block k hk)
  · simp only [List.mem_cons, Option.mem_toList] at hk
    rcases hk with rfl | hk
    · exact .inl hx
    · exact .inr (hv k hk)

/-- Where a name stands; -1: nowhere. -/
def idx5 (l : List Fl) (s : ByteArray) : Int := match l.findIdx? (isK s) with
  | some k => k
  | none => -1
theorem idx5_found {l : List Fl} {s : ByteArray} {k : Nat} {y : Fl} (h : ∀ (i : Nat) (z : Fl), i < k → l[i]? = some z → z.name ≠ s) (hk : l[k]? = some y) (hy : y.name = s) : idx5 l s = k := by
  have : l.findIdx? (isK s) = some k := by
    obtain ⟨hlt, he⟩ := List.getElem?_eq_some_iff.1 hk
    rw [List.findIdx?_eq_some_iff_getElem]
    refine ⟨hlt, by rw [he]; exact isK_iff.2 hy, fun j hj => ?_⟩
    intro e
    exact h j _ hj (List.getElem?_eq_getElem (by omega)) (isK_iff.1 e)
  unfold idx5
  rw [this]
theorem idx5_none {l : List Fl} {s : ByteArray} (h : ∀ (i : Nat) (z : Fl), l[i]? = some z → z.name ≠ s) : idx5 l s = -1 := by
  have : l.findIdx? (isK s) = none := by
    rw [List.findIdx?_eq_none_iff]
    intro z hz
    obtain ⟨i, hi⟩ := List.mem_iff_getElem?.1 hz
    exact isK_no (h i z hi)
  unfold idx5
  rw [this]
theorem idx5_cases (l : List Fl) (s : ByteArray) : (∃ k y, idx5 l s = (k : Nat) ∧ l[k]? = some y ∧ y.name = s ∧ (∀ (i : Nat) (z : Fl), i < k → l[i]? = some z → z.name ≠ s) ∧ findK l s = some y) ∨ (idx5 l s = -1 ∧ findK l s = none) := by
  cases hf : l.findIdx? (isK s) with
  | none =>
    right
    have h1 : ∀ z ∈ l, z.name ≠ s := fun z hz e => by
      rw [List.findIdx?_eq_none_iff] at hf
      have := hf z hz
      rw [isK_iff.2 e] at this
      cases this
    exact ⟨by unfold idx5; rw [hf], findF_none h1⟩
  | some k =>
    left
    obtain ⟨hlt, h1, h2⟩ := List.findIdx?_eq_some_iff_getElem.1 hf
    have h3 : ∀ i z, i < k → l[i]? = some z → z.name ≠ s := fun i z hi hz e => by
      obtain ⟨hl, he⟩ := List.getElem?_eq_some_iff.1 hz
      have := h2 i hi
      rw [he, isK_iff.2 e] at this
      exact this rfl
    exact ⟨k, l[k], by unfold idx5; rw [hf], List.getElem?_eq_getElem hlt, isK_iff.1 h1, h3, findK_at h3 (List.getElem?_eq_getElem hlt) (isK_iff.1 h1)⟩
theorem beq_name {a s : ByteArray} (h : a ≠ s) : (a.toList == s.toList) = false := by
  rw [beq_eq_false_iff_ne]
  exact fun e => h (toList_inj e)

set_option maxHeartbeats 4000000 in
theorem find5_any (x : Nat) (S : List Nat) (r : D5) (s : ByteArray) (w : World) (h : D5At x S r w) (hlen : r.l.length ≤ 1000000) :
    Calls Tryz.prog 64 #[.pointer (some ⟨x, 0, none⟩), .string s] w fun e w' => e = .returned (.int .i64 (idx5 r.l s)) ∧ w = w' := by
  obtain ⟨A, c, hcell, hcap, hrow⟩ := h.row
  obtain ⟨P, hP⟩ : ∃ P, r.l = P := ⟨_, rfl⟩
  rw [hP] at hcell hcap hrow hlen ⊢
  obtain ⟨n, hn⟩ : ∃ n, P.length = n := ⟨_, rfl⟩
  rw [hn] at hcell hcap hlen
  have HR := Lib.hid hrow; have HN := Lib.hid hn
  clear hrow hn hP h
  go_enter Tryz.func64, Tryz.ntmps64
  go_wp2
  go_loopw [5] (fun nn wr => ∃ k : Nat, k ≤ n ∧ nn = .int .i64 k ∧ Hid (∀ j z, j < k → P[j]? = some z → z.name ≠ s) ∧ wr = w) (fun nn _ => n - (intOf nn).toNat)
  case atStart => exact ⟨0, Nat.zero_le _, rfl, fun j z h => absurd h (by omega), rfl⟩
  case round =>
    obtain ⟨k, hk, rfl, HI, rfl⟩ := hrel
    have b1 : (0 : Int) ≤ (k : Int) := by omega
    by_cases hlt : k < n
    · obtain ⟨ad, y, rfl, hab, hyk, hym, hc⟩ := HR.out.at_ (show k < P.length by rw [HN.out]; exact hlt)
      have e0 : wr.cell? (ad.add (k * 3)) = some (.string y.name) := by have h := hc 0 _ rfl; rw [show (ad.add (k * 3)).add 0 = ad.add (k * 3) from by rw [add_of_add]; rfl] at h; exact h
      have HYK := Lib.hid hyk
      have b2 : (k : Int) < (n : Int) := by omega
      clear hc hyk hym
      by_cases he : y.name = s
      · have hq : (y.name.toList == s.toList) = true := by rw [he]; simp
        have HE := Lib.hid (idx5_found HI.out HYK.out he)
        clear he
        go_wp2
        go_ret
        exact ⟨by rw [HE.out]; rfl, rfl⟩
      · have hq := beq_name he
        have HE2 := Lib.hid he
        clear he
        go_wp2
        go_roundw
        case rel =>
          refine ⟨k + 1, hlt, by go_num, fun j z hj hz => ?_, trivial⟩
          rcases Nat.lt_or_ge j k with h1 | h1
          · exact HI.out j z h1 hz
          · obtain rfl : j = k := by omega
            rw [HYK.out] at hz
            injection hz with hz
            subst hz
            exact HE2.out
        case measure => simp [intOf]; omega
    · have HE : Hid (idx5 P s = -1) := idx5_none (fun j z hz => HI.out j z (by have := (List.getElem?_eq_some_iff.1 hz).1; rw [HN.out] at this; omega) hz)
      obtain rfl : k = n := by omega
      go_wp2
      go_ret
      exact ⟨by rw [HE.out]; rfl, rfl⟩
set_option maxHeartbeats 4000000 in
theorem op5_any (x : Nat) (S : List Nat) (r : D5) (w : World) (h : D5At x S r w) (h0 : 0 ≤ r.ops) (h1 : r.ops ≤ 4611686018427387904) (h2 : -1 ≤ r.fuse) (h3 : r.fuse ≤ 9223372036854775807) :
    Calls Tryz.prog 62 #[.pointer (some ⟨x, 0, none⟩)] w fun e w' => e = .returned (.tuple #[.bool r.on, .bool (stays5 r)]) ∧ D5At x S (op5 r) w' ∧ Mv [x] [x] w w' := by
  obtain ⟨on, l, ops, fuse⟩ := r
  dsimp only at h0 h1 h2 h3
  have c0 : w.cell? ⟨x, 0, none⟩ = some (.bool on) := h.cell0
  have c2 : w.cell? ⟨x, 2, none⟩ = some (.int .i64 ops) := h.cell2
  have c3 : w.cell? ⟨x, 3, none⟩ = some (.int .i64 fuse) := h.cell3
  have f0 := h.frozen 0; have f2 := h.frozen 2; have f3 := h.frozen 3
  have H := Lib.hid h
  clear h
  cases on
  · have e1 : op5 ⟨false, l, ops, fuse⟩ = ⟨false, l, ops, fuse⟩ := op5_off rfl
    have e2 : stays5 ⟨false, l, ops, fuse⟩ = false := rfl
    rw [e1, e2]
    clear e1 e2
    go_enter Tryz.func62, Tryz.ntmps62
    go_wp2
    go_ret2
    exact ⟨rfl, H.out, Mv.refl _ _⟩
  · obtain ⟨S5, hS5⟩ : ∃ S5, stays5 ⟨true, l, ops, fuse⟩ = S5 := ⟨_, rfl⟩
    obtain ⟨O5, hO5⟩ : ∃ O5, op5 ⟨true, l, ops, fuse⟩ = O5 := ⟨_, rfl⟩
    rw [hS5, hO5]
    have HS5 := Lib.hid hS5; have HO5 := Lib.hid hO5
    clear hS5 hO5
    rcases Int.lt_or_le ops 4611686018427387904 with hlt | hge
    · have HU : Hid (upI ops = ops + 1) := by show _ = _; unfold upI; rw [if_pos hlt]
      by_cases hz : fuse = 0
      · subst hz
        have e1 : O5 = ⟨false, l, ops + 1, -1⟩ := by rw [← HO5.out, ← HU.out]; rfl
        have e2 : S5 = false := by rw [← HS5.out]; rfl
        subst e1 e2
        clear HO5 HS5
        go_enter Tryz.func62, Tryz.ntmps62
        go_wp2
        go_ret2
        exact ⟨rfl, ((H.out.set2 (ops + 1)).set3 (-1)).set0 false, (mv_cell 2 _).trans ((mv_cell 3 _).trans (mv_cell 0 _))⟩
      · have hne : ¬ fuse = 0 := hz
        have e2 : S5 = true := by rw [← HS5.out]; unfold stays5; simp [hz]
        subst e2
        rcases Int.lt_or_le 0 fuse with hp | hp
        · have e1 : O5 = ⟨true, l, ops + 1, fuse - 1⟩ := by rw [← HO5.out, ← HU.out]; unfold op5; rw [if_pos rfl, if_neg hz]; simp only [if_pos hp]
          subst e1
          clear HO5 HS5
          go_enter Tryz.func62, Tryz.ntmps62
          go_wp2
          go_ret2
          exact ⟨rfl, (H.out.set2 (ops + 1)).set3 (fuse - 1), (mv_cell 2 _).trans (mv_cell 3 _)⟩
        · have e1 : O5 = ⟨true, l, ops + 1, fuse⟩ := by rw [← HO5.out, ← HU.out]; unfold op5; rw [if_pos rfl, if_neg hz]; simp only [if_neg (show ¬ 0 < fuse by omega)]
          subst e1
          clear HO5 HS5
          go_enter Tryz.func62, Tryz.ntmps62
          go_wp2
          go_ret2
          exact ⟨rfl, H.out.set2 (ops + 1), mv_cell 2 _⟩
    · have HU : Hid (upI ops = ops) := by show _ = _; unfold upI; rw [if_neg (by omega)]
      by_cases hz : fuse = 0
      · subst hz
        have e1 : O5 = ⟨false, l, ops, -1⟩ := by rw [← HO5.out]; show (⟨false, l, upI ops, -1⟩ : D5) = _; rw [HU.out]
        have e2 : S5 = false := by rw [← HS5.out]; rfl
        subst e1 e2
        clear HO5 HS5
        go_enter Tryz.func62, Tryz.ntmps62
        go_wp2
        go_ret2
        exact ⟨rfl, (H.out.set3 (-1)).set0 false, (mv_cell 3 _).trans (mv_cell 0 _)⟩
      · have hne : ¬ fuse = 0 := hz
        have e2 : S5 = true := by rw [← HS5.out]; unfold stays5; simp [hz]
        subst e2
        rcases Int.lt_or_le 0 fuse with hp | hp
        · have e1 : O5 = ⟨true, l, ops, fuse - 1⟩ := by rw [← HO5.out]; unfold op5; rw [if_pos rfl, if_neg hz]; simp only [if_pos hp, HU.out]
          subst e1
          clear HO5 HS5
          go_enter Tryz.func62, Tryz.ntmps62
          go_wp2
          go_ret2
          exact ⟨rfl, H.out.set3 (fuse - 1), mv_cell 3 _⟩
        · have e1 : O5 = ⟨true, l, ops, fuse⟩ := by rw [← HO5.out]; unfold op5; rw [if_pos rfl, if_neg hz]; simp only [if_neg (show ¬ 0 < fuse by omega), HU.out]
          subst e1
          clear HO5 HS5
          go_enter Tryz.func62, Tryz.ntmps62
          go_wp2
          go_ret2
          exact ⟨rfl, H.out, Mv.refl _ _⟩
theorem good5_any (s : ByteArray) (hs : s.size ≤ 9223372036854775807) (w : World) : Calls Tryz.prog 63 #[.string s] w fun e w' => e = .returned (.bool (validB s)) ∧ w = w' := by
  by_cases h1 : 1 ≤ s.size
  · by_cases h2 : s.size ≤ 40
    · have e : validB s = true := decide_eq_true ⟨by omega, h2⟩
      rw [e]
      have d2 : decide ((s.size : Int) ≤ 40) = true := decide_eq_true (by omega)
      clear e
      go_enter Tryz.func63, Tryz.ntmps63
      go_wp2
      go_ret
      exact ⟨rfl, rfl⟩
    · have e : validB s = false := decide_eq_false (fun h => h2 h.2)
      rw [e]
      have d2 : decide ((s.size : Int) ≤ 40) = false := decide_eq_false (by omega)
      clear e
      go_enter Tryz.func63, Tryz.ntmps63
      go_wp2
      go_ret
      exact ⟨rfl, rfl⟩
  · have e : validB s = false := decide_eq_false (fun h => h1 (by omega))
    rw [e]
    clear e
    go_enter Tryz.func63, Tryz.ntmps63
    go_wp2
    go_ret
    exact ⟨rfl, rfl⟩
theorem new5_any (w : World) : Calls Tryz.prog 27 #[] w fun e w' => ∃ x, e = .returned (.pointer (some ⟨x, 0, none⟩)) ∧ w.heap.size ≤ x ∧ D5At x [x] new5 w' ∧ Below w.heap.size w w' := by
  go_enter Tryz.func27, Tryz.ntmps27
  go_wp2
  go_ret
  exact ⟨_, rfl, Nat.le_refl _, ⟨.slice none 0 0, by simp [Value.ownBlock], heap_alloc_new w _, World.ownsRow_nil _ _ _ _, by simp [Value.ownBlock]⟩, (Below.refl _ _).alloc (Nat.le_refl _) _⟩
set_option maxHeartbeats 4000000 in
theorem read5_any (x : Nat) (S : List Nat) (r : D5) (s : ByteArray) (w : World) (h : D5At x S r w) (hlen : r.l.length ≤ 1000000) :
    Calls Tryz.prog 66 #[.pointer (some ⟨x, 0, none⟩), .string s] w fun e w' => e = .returned (.tuple #[.string (read5 r s).1, .int .i64 (read5 r s).2]) ∧ w = w' := by
  have F := Lib.hid (find5_any x S r s w h hlen)
  obtain ⟨A, c, hcell, hcap, hrow⟩ := h.row
  have c0 := h.cell0
  obtain ⟨n, hn⟩ : ∃ n, r.l.length = n := ⟨_, rfl⟩
  rw [hn] at hcell hcap hlen
  have HR := Lib.hid hrow; have HN := Lib.hid hn
  obtain ⟨on, hon⟩ : ∃ on, r.on = on := ⟨_, rfl⟩
  rw [hon] at c0
  have HON := Lib.hid hon
  clear hrow hn hon h
  cases on
  · have e : read5 r s = (⟨#[]⟩, 14) := by unfold read5; rw [if_neg (by rw [HON.out]; decide)]
    rw [e]
    clear e
    go_enter Tryz.func66, Tryz.ntmps66
    go_wp2
    go_ret2
    exact ⟨rfl, rfl⟩
  · rcases idx5_cases r.l s with ⟨k, y, hi, hk, hy, _, hf⟩ | ⟨hi, hf⟩
    · have e : read5 r s = (y.data, 0) := by unfold read5; rw [if_pos HON.out, hf]
      rw [e]
      rw [hi] at F
      have hkn : k < n := by rw [← HN.out]; exact (List.getElem?_eq_some_iff.1 hk).1
      obtain ⟨ad, y', rfl, hab, hyk, hym, hc⟩ := HR.out.at_ (show k < r.l.length by rw [HN.out]; exact hkn)
      rw [hk] at hyk
      injection hyk with hyk
      subst hyk
      have e1 : w.cell? ⟨(ad.add (k * 3)).block, (ad.add (k * 3)).off + 1, none⟩ = some (.string y.data) := hc 1 _ rfl
      have b1 : (0 : Int) ≤ (k : Int) := by omega
      have b2 : (k : Int) < (n : Int) := by omega
      clear e hi hk hy hf hym hc
      go_enter Tryz.func66, Tryz.ntmps66
      go_wp2_with fail
      refine F.out.mono ?_
      rintro e w1 ⟨rfl, rfl⟩
      go_wp2
      go_ret2
      exact ⟨rfl, rfl⟩
    · have e : read5 r s = (⟨#[]⟩, 7) := by unfold read5; rw [if_pos HON.out, hf]
      rw [e]
      rw [hi] at F
      clear e hi hf
      go_enter Tryz.func66, Tryz.ntmps66
      go_wp2_with fail
      refine F.out.mono ?_
      rintro e w1 ⟨rfl, rfl⟩
      go_wp2
      go_ret2
      exact ⟨rfl, rfl⟩
set_option maxHeartbeats 4000000 in
theorem files5_any (x : Nat) (S : List Nat) (r : D5) (w : World) (h : D5At x S r w) (hlen : r.l.length ≤ 1000000) :
    Calls Tryz.prog 71 #[.pointer (some ⟨x, 0, none⟩)] w fun e w' => ∃ A c, e = .returned (.slice A r.l.length c) ∧ Reads w' w'.heap.size 1 A r.l.length (strs (r.l.map (·.name))) ∧ Below w.heap.size w w' := by
  obtain ⟨i0, hinf, hz0, hz1, hz2⟩ := info_parts infoT5
  have hxl := h.lt
  obtain ⟨A, c, hcell, hcap, hrow⟩ := h.row
  obtain ⟨P, hP⟩ : ∃ P, r.l = P := ⟨_, rfl⟩
  rw [hP] at hcell hcap hrow hlen ⊢
  obtain ⟨n, hn⟩ : ∃ n, P.length = n := ⟨_, rfl⟩
  rw [hn] at hcell hcap hlen ⊢
  have HR := Lib.hid hrow; have HN := Lib.hid hn; have HC := Lib.hid hcell; have HXL := Lib.hid hxl
  clear hrow hn hP h hcell hxl
  go_enter Tryz.func71, Tryz.ntmps71
  go_wp2
  go_loopw [3, 4] (fun v nn wr => ∃ k : Nat, k ≤ n ∧ nn = .int .i64 k ∧ Hid (wr.ownsRow w.heap.size 9 1 v k (strs ((P.take k).map (·.name)))) ∧ Hid (Below w.heap.size w wr)) (fun _ nn _ => n - (intOf nn).toNat)
  case atStart => exact ⟨0, Nat.zero_le _, rfl, World.ownsRow_nil _ _ _ _, Below.refl _ _⟩
  case round =>
    obtain ⟨k, hk, rfl, HO, HB⟩ := hrel
    obtain ⟨A9, c9, rfl, hc9⟩ := own_form HO.out
    have b1 : (0 : Int) ≤ (k : Int) := by omega
    have hcx : wr.cell? ⟨x, 1, none⟩ = some (.slice A n c) := (HB.out.cell (p := ⟨x, 1, none⟩) HXL.out).trans HC.out
    have hbs := HB.out.size
    by_cases hlt : k < n
    · obtain ⟨ad, y, rfl, hab, hyk, hym, hc⟩ := HR.out.at_ (show k < P.length by rw [HN.out]; exact hlt)
      have e0 : wr.cell? (ad.add (k * 3)) = some (.string y.name) := by
        have h := hc 0 _ rfl
        rw [show (ad.add (k * 3)).add 0 = ad.add (k * 3) from by rw [add_of_add]; rfl] at h
        exact (HB.out.cell (by rw [block_of_add]; exact hab)).trans h
      have HYK := Lib.hid hyk
      have b2 : (k : Int) < (n : Int) := by omega
      have hr1 : Reads (wr.alloc (.cells #[.string y.name] 9)) (wr.heap.size + 1) 1 (some ⟨wr.heap.size, 0, none⟩) 1 [.string y.name] := reads_newN wr [.string y.name] 9 #[.string y.name] rfl rfl
      have ho1 := HO.out.alloc (.cells #[.string y.name] 9)
      have hb1 := HB.out.alloc hbs (.cells #[.string y.name] 9)
      clear hc hyk hym
      go_wp2_with (at_builtin; go_loud (refine wpList_append_any _ rfl _ _ 22 rfl w.heap.size 9 i0 _ 1 16 Tryz.underlying22 hinf hz0 hz1 hz2 rfl (by decide) _ _ _ rfl ho1 _ _ 1 _ _ rfl hr1 ?d2 ?d3 ?d4 ?d5 ?_))
      case d2 => intro u hu; obtain rfl := List.mem_singleton.1 hu; rfl
      case d3 => unfold maxLen; omega
      case d4 => omega
      case d5 => exact hb1.size
      intro v4 w4 hown4 hgrow4 _
      have hb4 : Below w.heap.size w w4 := hb1.grown hgrow4 hb1.size (fun q hq => (ho1.lt q hq).1)
      have e4 : strs (List.take k (P.map (·.name))) ++ [.string y.name] = strs ((P.take (k + 1)).map (·.name)) := by rw [← List.map_take, take_snoc HYK.out, List.map_append]; simp [strs]
      rw [e4] at hown4
      have HO4 := Lib.hid hown4; have HB4 := Lib.hid hb4
      clear hown4 hb4 hgrow4 e4 hr1 ho1 hb1 e0
      go_wp2
      go_roundw
      case rel => exact ⟨k + 1, hlt, by go_num, HO4.out, HB4.out⟩
      case measure => simp [intOf]; omega
    · obtain rfl : k = n := by omega
      have HRD : Hid (Reads wr wr.heap.size 1 A9 k (strs (P.map (·.name)))) := by
        have h := Reads.of_own HO.out
        rw [List.take_of_length_le (by rw [HN.out]; exact Nat.le_refl _)] at h
        exact h
      go_wp2
      go_ret
      exact ⟨_, _, rfl, HRD.out, HB.out⟩
end Go.Proofs.YtfmbadinfhpihaaGreat
