/-
  The document's data (complineref8) as contracts: what lies in memory; who stands at a name.
  Conditions: the caller's memory stays.
-/
import Derived.Test.YtkcecijepbceiaaR8Plain
import Derived.Test.YtkcecijepbceiaaRef5
import Derived.Test.YtkcecijepbceiaaRcmp
namespace Go.Proofs.Ytkcecijepbceiaa
open Go.RowKit Go.Maps Go.Shelf
set_option maxRecDepth 100000

section
variable {α : Type} [Kd α]
def cellsOf (l : List α) : List Value := l.flatMap fun x => (Kd.val x).cells.toList
theorem cellsOf_len {N : Nat} {l : List α} (hN : ∀ x ∈ l, (Kd.val x).cells.size = N) : (cellsOf l).length = l.length * N := by
  induction l with
  | nil => simp [cellsOf]
  | cons y l ih =>
    have h1 := ih (fun x hx => hN x (by simp [hx]))
    have h2 := hN y (by simp)
    unfold cellsOf at h1 ⊢
    rw [List.flatMap_cons, List.length_append, h1, Array.length_toList, h2, List.length_cons, Nat.succ_mul, Nat.add_comm]
theorem cells_at {N : Nat} : ∀ {l : List α}, (∀ x ∈ l, (Kd.val x).cells.size = N) → ∀ {k : Nat} {x : α}, l[k]? = some x → ∀ {j : Nat} {v : Value}, (Kd.val x).cells[j]? = some v → (cellsOf l)[k * N + j]? = some v
  | [], _, k, x, h, _, _, _ => by simp at h
  | y :: l, hN, k, x, h, j, v, hv => by
    have hy : (Kd.val y).cells.toList.length = N := by rw [Array.length_toList]; exact hN y (by simp)
    rw [← Array.getElem?_toList] at hv
    have e : cellsOf (y :: l) = (Kd.val y).cells.toList ++ cellsOf l := rfl
    rw [e]
    cases k with
    | zero =>
      simp at h
      subst h
      rw [Nat.zero_mul, Nat.zero_add, List.getElem?_append_left (List.getElem?_eq_some_iff.1 hv).1]
      exact hv
    | succ k =>
      simp only [List.getElem?_cons_succ] at h
      rw [List.getElem?_append_right (by rw [hy, Nat.succ_mul]; omega), hy, show (k + 1) * N + j - N = k * N + j by rw [Nat.succ_mul]; omega]
      exact cells_at (fun x hx => hN x (by simp [hx])) h (by rw [← Array.getElem?_toList]; exact hv)
theorem cells_inv {N : Nat} : ∀ {l : List α}, (∀ x ∈ l, (Kd.val x).cells.size = N) → ∀ {i : Nat} {v : Value}, (cellsOf l)[i]? = some v → ∃ k j x, i = k * N + j ∧ l[k]? = some x ∧ (Kd.val x).cells[j]? = some v
  | [], _, i, v, h => by simp [cellsOf] at h
  | y :: l, hN, i, v, h => by
    have hy : (Kd.val y).cells.toList.length = N := by rw [Array.length_toList]; exact hN y (by simp)
    have e : cellsOf (y :: l) = (Kd.val y).cells.toList ++ cellsOf l := rfl
    rw [e] at h
    rcases Nat.lt_or_ge i N with hi | hi
    · rw [List.getElem?_append_left (by omega), Array.getElem?_toList] at h
      exact ⟨0, i, y, by simp, rfl, h⟩
    · rw [List.getElem?_append_right (by omega), hy] at h
      obtain ⟨k, j, x, h1, h2, h3⟩ := cells_inv (fun x hx => hN x (by simp [hx])) h
      exact ⟨k + 1, j, x, by rw [Nat.succ_mul]; omega, h2, h3⟩
theorem cellsOf_one (l : List α) (h1 : ∀ x : α, ∀ u ∈ (Kd.val x).cells.toList, u.oneCell' = true) : ∀ u ∈ cellsOf l, u.oneCell' = true := fun u hu => by
  obtain ⟨x, _, hx⟩ := List.mem_flatMap.1 hu
  exact h1 x u hx
theorem RowsAt.reads {w : World} {B N : Nat} {A : Option Addr} {l : List α} (h : RowsAt w B A N l) (hN : ∀ x ∈ l, (Kd.val x).cells.size = N) : Reads w B N A l.length (cellsOf l) := by
  refine ⟨cellsOf_len hN, fun hn => ?_⟩
  obtain ⟨ad, e, hb, hc⟩ := h.row hn
  refine ⟨ad, e, hb, fun i u hu => ?_⟩
  obtain ⟨k, j, x, rfl, h2, h3⟩ := cells_inv hN hu
  rw [← add_of_add]
  exact hc k x h2 j u h3
theorem RowsAt.take {w : World} {B N : Nat} {A : Option Addr} {l : List α} (h : RowsAt w B A N l) (k : Nat) : RowsAt w B A N (l.take k) := ⟨fun hn => by
  obtain ⟨ad, e, hb, hc⟩ := h.row (by rw [List.length_take] at hn; omega)
  refine ⟨ad, e, hb, fun i x hx j v hv => hc i x ?_ j v hv⟩
  rw [List.getElem?_take] at hx
  split at hx
  · exact hx
  · cases hx⟩
theorem cellsOf_drop {N : Nat} : ∀ {l : List α}, (∀ x ∈ l, (Kd.val x).cells.size = N) → ∀ k, cellsOf (l.drop k) = (cellsOf l).drop (k * N)
  | [], _, k => by simp [cellsOf]
  | y :: l, hN, 0 => by simp
  | y :: l, hN, k + 1 => by
    have hy : (Kd.val y).cells.toList.length = N := by rw [Array.length_toList]; exact hN y (by simp)
    have e : cellsOf (y :: l) = (Kd.val y).cells.toList ++ cellsOf l := rfl
    have h1 : (Kd.val y).cells.toList.drop ((k + 1) * N) = [] := List.drop_of_length_le (by rw [hy, Nat.succ_mul]; omega)
    rw [List.drop_succ_cons, e, cellsOf_drop (fun x hx => hN x (by simp [hx])) k, List.drop_append, h1, hy, List.nil_append, show (k + 1) * N - N = k * N by rw [Nat.succ_mul]; omega]
theorem cellsOf_app (l m : List α) : cellsOf (l ++ m) = cellsOf l ++ cellsOf m := by simp [cellsOf]
theorem rows_own {w : World} {base N : Nat} {e : TypeId} {v : Value} {n : Nat} {l : List α} (h : w.ownsRow base e N v n (cellsOf l)) (hn : l.length = n) (hN : ∀ x ∈ l, (Kd.val x).cells.size = N) : ∃ A cap, v = .slice A n cap ∧ n ≤ cap ∧ RowsAt w w.heap.size A N l ∧ ∀ ad, A = some ad → base ≤ ad.block := by
  subst hn
  rcases h.2 with ⟨rfl, hx⟩ | ⟨g, cap, cur, rfl, hb, hh, hcc, _⟩
  · have : l.length = 0 := by
      have h1 := h.1
      rw [hx] at h1
      rcases Nat.eq_zero_or_pos l.length with h2 | h2
      · exact h2
      · have := hx
        omega
    exact ⟨none, 0, by rw [this], by omega, ⟨fun hn => by omega⟩, fun ad e => by cases e⟩
  · have hr := Reads.of_own h
    refine ⟨_, _, rfl, hcc, ⟨fun hn => ?_⟩, fun ad e => by injection e with e; subst e; exact hb⟩
    obtain ⟨ad, e1, hlt, hc⟩ := hr.2 hn
    refine ⟨ad, e1, hlt, fun k x hx j u hu => ?_⟩
    rw [add_of_add]
    exact hc _ u (cells_at hN hx hu)
theorem rows_newN (w : World) (l : List α) (T : TypeId) (cs : Array Value) {N : Nat} (hcs : cs.toList = cellsOf l) (hN : ∀ x ∈ l, (Kd.val x).cells.size = N) : RowsAt (w.alloc (.cells cs T)) (w.alloc (.cells cs T)).heap.size (some ⟨w.heap.size, 0, none⟩) N l := by
  refine ⟨fun _ => ⟨_, rfl, by simp, fun k x hx j u hu => ?_⟩⟩
  rw [add_of_add]
  have h : (w.alloc (.cells cs T)).heap[w.heap.size]? = some (.cells cs T (0, 0)) := heap_alloc_new w _
  have e : ∀ j, ((⟨w.heap.size, 0, none⟩ : Addr).add j) = ⟨w.heap.size, j, none⟩ := by
    intro j
    unfold Addr.add; split
    · rename_i h; subst h; rfl
    · simp
  rw [e]
  simp only [World.cell?, h]
  have := cells_at hN hx hu
  rw [← hcs] at this
  simpa using this
theorem RowsAt.more {w : World} {B B' N : Nat} {A : Option Addr} {l : List α} (h : RowsAt w B A N l) (hB : B ≤ B') : RowsAt w B' A N l := ⟨fun hn => by
  obtain ⟨ad, e, hb, hc⟩ := h.row hn
  exact ⟨ad, e, by omega, hc⟩⟩
theorem RowsAt.mvx {w w' : World} {x N : Nat} {S' : List Nat} {A : Option Addr} {l : List α} (h : RowsAt w w.heap.size A N l) (hm : Mv [x] S' w w') (ho : 0 < l.length → ∀ ad, A = some ad → ad.block ≠ x) : RowsAt w' w'.heap.size A N l := ⟨fun hn => by
  obtain ⟨ad, e, hb, hc⟩ := h.row hn
  refine ⟨ad, e, Nat.lt_of_lt_of_le hb hm.size, fun k y hy j v hv => ?_⟩
  rw [World.cell?_of_block (w := w) (w' := w') (by rw [block_of_add, block_of_add]; exact hm.block _ hb (by simpa using ho hn ad e))]
  exact hc k y hy j v hv⟩
theorem findK_at {P : List α} {s : ByteArray} {k : Nat} {y : α} (h : ∀ i z, i < k → P[i]? = some z → Kd.key z ≠ s) (hk : P[k]? = some y) (hy : Kd.key y = s) : findK P s = some y := by
  unfold findK
  have hsp : P = P.take k ++ P.drop k := (List.take_append_drop _ _).symm
  have hd : P.drop k = y :: P.drop (k + 1) := by
    obtain ⟨hlt, he⟩ := List.getElem?_eq_some_iff.1 hk
    rw [List.drop_eq_getElem_cons hlt, he]
  have h0 : (P.take k).find? (isK s) = none := by
    rw [List.find?_eq_none]
    intro z hz e
    obtain ⟨i, hi⟩ := List.mem_iff_getElem?.1 hz
    rw [List.getElem?_take] at hi
    split at hi
    · exact h i z (by assumption) hi (isK_iff.1 e)
    · cases hi
  rw [hsp, List.find?_append, h0, hd, Option.none_or, List.find?_cons, isK_iff.2 hy]
theorem findK_none {P : List α} {s : ByteArray} (h : ∀ i z, i < P.length → P[i]? = some z → Kd.key z ≠ s) : findK P s = none := by
  unfold findK
  rw [List.find?_eq_none]
  intro z hz e
  obtain ⟨i, hi⟩ := List.mem_iff_getElem?.1 hz
  exact h i z (List.getElem?_eq_some_iff.1 hi).1 hi (isK_iff.1 e)
end
theorem info_all {T : TypeId} {N B : Nat} (h : (Try.prog.info? T).map (fun i => (i.zero.map (·.cells.size), i.size, i.bytes)) = some (some N, N, B)) : ∃ i z, Try.prog.info? T = some i ∧ i.zero = some z ∧ i.size = N ∧ i.bytes = B ∧ z.cells.size = N := by
  cases hi : Try.prog.info? T with
  | none => rw [hi] at h; cases h
  | some i =>
    rw [hi] at h
    simp only [Option.map_some, Option.some.injEq, Prod.mk.injEq, Option.map_eq_some_iff] at h
    obtain ⟨⟨z, h1, h2⟩, h3, h4⟩ := h
    exact ⟨i, z, rfl, h1, h3, h4, h2⟩

/-- The document's data, in plain words. -/
structure R8 where
  l : List Int
  p : List Party
  a : List Account
  s : List Asset
/-- A list of records beside the data's own block. -/
def SlAt (α : Type) [Kd α] (x N : Nat) (v : Value) (P : List α) (w : World) : Prop :=
  ∃ A c, v = .slice A P.length c ∧ P.length ≤ c ∧ RowsAt w w.heap.size A N P ∧ (0 < P.length → ∀ ad, A = some ad → ad.block ≠ x)
def InAt (x : Nat) (v : Value) (l : List Int) (w : World) : Prop :=
  ∃ A c, v = .slice A l.length c ∧ l.length ≤ c ∧ Reads w w.heap.size 1 A l.length (ints l) ∧ (0 < l.length → ∀ ad, A = some ad → ad.block ≠ x)
def R8At (x : Nat) (st : R8) (w : World) : Prop :=
  ∃ vl vp va vs, w.heap[x]? = some (.cells #[vl, vp, va, vs] 83 (0, 0)) ∧ InAt x vl st.l w ∧ SlAt Party x 2 vp st.p w ∧ SlAt Account x 2 va st.a w ∧ SlAt Asset x 8 vs st.s w
theorem SlAt.mvx {α : Type} [Kd α] {x N : Nat} {v : Value} {P : List α} {w w' : World} {S' : List Nat} (h : SlAt α x N v P w) (hm : Mv [x] S' w w') : SlAt α x N v P w' := by
  obtain ⟨A, c, h1, h2, h3, h4⟩ := h
  exact ⟨A, c, h1, h2, h3.mvx hm h4, h4⟩
theorem InAt.mvx {x : Nat} {v : Value} {l : List Int} {w w' : World} {S' : List Nat} (h : InAt x v l w) (hm : Mv [x] S' w w') : InAt x v l w' := by
  obtain ⟨A, c, h1, h2, h3, h4⟩ := h
  refine ⟨A, c, h1, h2, ⟨h3.1, fun hn => ?_⟩, h4⟩
  obtain ⟨ad, e, hb, hc⟩ := h3.2 hn
  refine ⟨ad, e, Nat.lt_of_lt_of_le hb hm.size, fun j u hu => ?_⟩
  rw [World.cell?_of_block (w := w) (w' := w') (by rw [block_of_add]; exact hm.block _ hb (by simpa using h4 hn ad e))]
  exact hc j u hu
theorem mv_of_below {x : Nat} {w w' : World} (h : Below w.heap.size w w') : Mv [x] [x] w w' := Mv.of_new h (fun _ hk => .inl hk)
section
variable {x : Nat} {st : R8} {w w' : World}
theorem R8At.lt (h : R8At x st w) : x < w.heap.size := by obtain ⟨_, _, _, _, h, _⟩ := h; exact Blk.lt (t := 83) h
theorem R8At.below (h : R8At x st w) (hb : Below w.heap.size w w') : R8At x st w' := by
  have hlt := h.lt
  obtain ⟨vl, vp, va, vs, h1, h2, h3, h4, h5⟩ := h
  have hm : Mv [x] [x] w w' := mv_of_below hb
  exact ⟨vl, vp, va, vs, (hb.block x hlt).trans h1, h2.mvx hm, h3.mvx hm, h4.mvx hm, h5.mvx hm⟩
theorem R8At.drewN (h : R8At x st w) (n : Nat) : R8At x st (w.drewN n) := h.below (drewN_below (Below.refl _ _) n)
theorem R8At.frozen (h : R8At x st w) (i : Nat) : w.frozen? ⟨x, i, none⟩ = false := by
  obtain ⟨_, _, _, _, h, _⟩ := h
  exact Lib.frozen_of_heap h i
theorem mv_set (x i : Nat) (u : Value) (w : World) : Mv [x] [x] w (w.setCell ⟨x, i, none⟩ u) := (Mv.refl [x] w).set_ (by simp) i u
theorem R8At.atP (h : R8At x st w) : ∃ A c, w.cell? ⟨x, 1, none⟩ = some (.slice A st.p.length c) ∧ st.p.length ≤ c ∧ RowsAt w w.heap.size A 2 st.p ∧ (0 < st.p.length → ∀ ad, A = some ad → ad.block ≠ x) := by
  obtain ⟨vl, vp, va, vs, h1, h2, h3, h4, h5⟩ := h
  obtain ⟨A, c, rfl, h6, h7, h8⟩ := h3
  exact ⟨A, c, by rw [Lib.cell_of_heap h1]; rfl, h6, h7, h8⟩
theorem R8At.putP (h : R8At x st w) {v : Value} {P : List Party} (hv : SlAt Party x 2 v P w) : R8At x ⟨st.l, P, st.a, st.s⟩ (w.setCell ⟨x, 1, none⟩ v) := by
  obtain ⟨vl, vp, va, vs, h1, h2, h3, h4, h5⟩ := h
  have hm := mv_set x 1 v w
  exact ⟨vl, v, va, vs, Blk.set_ (show Blk w x 83 _ from h1) 1 _, h2.mvx hm, hv.mvx hm, h4.mvx hm, h5.mvx hm⟩
theorem R8At.atA (h : R8At x st w) : ∃ A c, w.cell? ⟨x, 2, none⟩ = some (.slice A st.a.length c) ∧ st.a.length ≤ c ∧ RowsAt w w.heap.size A 2 st.a ∧ (0 < st.a.length → ∀ ad, A = some ad → ad.block ≠ x) := by
  obtain ⟨vl, vp, va, vs, h1, h2, h3, h4, h5⟩ := h
  obtain ⟨A, c, rfl, h6, h7, h8⟩ := h4
  exact ⟨A, c, by rw [Lib.cell_of_heap h1]; rfl, h6, h7, h8⟩
theorem R8At.putA (h : R8At x st w) {v : Value} {P : List Account} (hv : SlAt Account x 2 v P w) : R8At x ⟨st.l, st.p, P, st.s⟩ (w.setCell ⟨x, 2, none⟩ v) := by
  obtain ⟨vl, vp, va, vs, h1, h2, h3, h4, h5⟩ := h
  have hm := mv_set x 2 v w
  exact ⟨vl, vp, v, vs, Blk.set_ (show Blk w x 83 _ from h1) 2 _, h2.mvx hm, h3.mvx hm, hv.mvx hm, h5.mvx hm⟩
theorem R8At.atS (h : R8At x st w) : ∃ A c, w.cell? ⟨x, 3, none⟩ = some (.slice A st.s.length c) ∧ st.s.length ≤ c ∧ RowsAt w w.heap.size A 8 st.s ∧ (0 < st.s.length → ∀ ad, A = some ad → ad.block ≠ x) := by
  obtain ⟨vl, vp, va, vs, h1, h2, h3, h4, h5⟩ := h
  obtain ⟨A, c, rfl, h6, h7, h8⟩ := h5
  exact ⟨A, c, by rw [Lib.cell_of_heap h1]; rfl, h6, h7, h8⟩
theorem R8At.putS (h : R8At x st w) {v : Value} {P : List Asset} (hv : SlAt Asset x 8 v P w) : R8At x ⟨st.l, st.p, st.a, P⟩ (w.setCell ⟨x, 3, none⟩ v) := by
  obtain ⟨vl, vp, va, vs, h1, h2, h3, h4, h5⟩ := h
  have hm := mv_set x 3 v w
  exact ⟨vl, vp, va, v, Blk.set_ (show Blk w x 83 _ from h1) 3 _, h2.mvx hm, h3.mvx hm, h4.mvx hm, hv.mvx hm⟩
end
theorem sizeP8 : (Try.prog.info? 130).map (·.size) = some 2 := by kernel_rfl
theorem csP8 (y : Party) : (Kd.val y).cells.size = 2 := rfl
theorem oneP8 (y : Party) : ∀ u ∈ (Kd.val y).cells.toList, u.oneCell' = true := by
  intro u hu
  have h : u ∈ [.string y.name, .int .i64 y.limit] := hu
  simp only [List.mem_cons, List.not_mem_nil, or_false] at h
  rcases h with rfl | rfl <;> rfl
set_option maxHeartbeats 4000000 in
theorem lookP8_any (x : Nat) (st : R8) (s : ByteArray) (w : World) (h : R8At x st w) (hlen : st.p.length ≤ 9223372036854775807) :
    Calls Try.prog 71 #[.pointer (some ⟨x, 0, none⟩), .string s] w fun e w' => e = .returned (.tuple #[Kd.val ((findK st.p s).getD Kd.zero), .bool (findK st.p s).isSome]) ∧ Below w.heap.size w w' := by
  have hxl := h.lt
  obtain ⟨A, c, hcell, hcap, hrow, _⟩ := h.atP
  obtain ⟨P, hP⟩ : ∃ P, st.p = P := ⟨_, rfl⟩
  rw [hP] at hcell hcap hrow hlen ⊢
  obtain ⟨n, hn⟩ : ∃ n, P.length = n := ⟨_, rfl⟩
  rw [hn] at hcell hcap hlen
  have hcx : (w.alloc (.cells #[.string ⟨#[]⟩, .int .i64 0] 130)).cell? ⟨x, 1, none⟩ = some (.slice A n c) := (World.cell?_alloc_lt _ _ _ (show x < w.heap.size from hxl)).trans hcell
  have HR := Lib.hid hrow; have Hn := Lib.hid hn
  clear hrow hn hP h hcell
  go_enter Try.func71, Try.ntmps71
  go_wp2
  go_loopw [6] (fun nn wr => ∃ i : Nat, i ≤ n ∧ nn = .int .i64 i ∧ Hid (∀ j z, j < i → P[j]? = some z → Kd.key z ≠ s) ∧ wr = w.alloc (.cells #[.string ⟨#[]⟩, .int .i64 0] 130)) (fun nn _ => n - (intOf nn).toNat)
  case atStart => exact ⟨0, Nat.zero_le _, rfl, fun j z h => absurd h (by omega), rfl⟩
  case round =>
    obtain ⟨i, hi, rfl, HI, rfl⟩ := hrel
    have b1 : (0 : Int) ≤ (i : Int) := by omega
    by_cases hlt : i < n
    · obtain ⟨ad, y, rfl, hab, hyk, hym, hc⟩ := HR.out.at_ (show i < P.length by rw [Hn.out]; exact hlt)
      have hc' : ∀ j v, (Kd.val y).cells[j]? = some v → (w.alloc (.cells #[.string ⟨#[]⟩, .int .i64 0] 130)).cell? ((ad.add (i * 2)).add j) = some v := fun j v hj => (World.cell?_alloc_lt _ _ _ (by rw [block_of_add, block_of_add]; exact hab)).trans (hc j v hj)
      have e0 : (w.alloc (.cells #[.string ⟨#[]⟩, .int .i64 0] 130)).cell? (ad.add (i * 2)) = some (.string y.name) := by have h := hc' 0 _ rfl; rw [show (ad.add (i * 2)).add 0 = ad.add (i * 2) from by rw [add_of_add]; rfl] at h; exact h
      have e1 : (w.alloc (.cells #[.string ⟨#[]⟩, .int .i64 0] 130)).cell? ⟨(ad.add (i * 2)).block, (ad.add (i * 2)).off + 1, none⟩ = some (.int .i64 y.limit) := hc' 1 _ rfl
      have HYK := Lib.hid hyk
      have b2 : (i : Int) < (n : Int) := by omega
      clear hc hc' hyk hym
      by_cases he : y.name = s
      · have hq : (y.name.toList == s.toList) = true := by rw [he]; simp
        have HF : Hid (findK P s = some y) := findK_at HI.out HYK.out he
        clear he
        go_wp2
        refine bodyPost_ret (results_cell_tmp_row rfl _ _ w.heap.size _ _ _ _ rfl (heap_alloc_new w _) Try.underlying130 rfl sizeP8) rfl ?_
        rw [HF.out]
        exact ⟨rfl, (Below.refl _ _).alloc (Nat.le_refl _) _⟩
      · have hq : (y.name.toList == s.toList) = false := by
          rw [beq_eq_false_iff_ne]
          exact fun e => he (toList_inj e)
        have HE := Lib.hid he
        clear he
        go_wp2
        go_roundw
        case rel =>
          refine ⟨i + 1, hlt, by go_num, fun j z hj hz => ?_, trivial⟩
          rcases Nat.lt_or_ge j i with h1 | h1
          · exact HI.out j z h1 hz
          · obtain rfl : j = i := by omega
            rw [HYK.out] at hz
            injection hz with hz
            subst hz
            exact HE.out
        case measure => simp [intOf]; omega
    · have hin : i = n := by omega
      have HF : Hid (findK P s = none) := findK_none (fun j z hj hz => HI.out j z (by rw [Hn.out] at hj; omega) hz)
      clear hin
      go_wp2
      refine bodyPost_ret (results_cell_tmp_row rfl _ _ w.heap.size _ _ _ _ rfl (heap_alloc_new w _) Try.underlying130 rfl sizeP8) rfl ?_
      rw [HF.out]
      exact ⟨rfl, (Below.refl _ _).alloc (Nat.le_refl _) _⟩
theorem sizeA8 : (Try.prog.info? 134).map (·.size) = some 2 := by kernel_rfl
theorem csA8 (y : Account) : (Kd.val y).cells.size = 2 := rfl
theorem oneA8 (y : Account) : ∀ u ∈ (Kd.val y).cells.toList, u.oneCell' = true := by
  intro u hu
  have h : u ∈ [.string y.name, .string y.party] := hu
  simp only [List.mem_cons, List.not_mem_nil, or_false] at h
  rcases h with rfl | rfl <;> rfl
set_option maxHeartbeats 4000000 in
theorem lookA8_any (x : Nat) (st : R8) (s : ByteArray) (w : World) (h : R8At x st w) (hlen : st.a.length ≤ 9223372036854775807) :
    Calls Try.prog 72 #[.pointer (some ⟨x, 0, none⟩), .string s] w fun e w' => e = .returned (.tuple #[Kd.val ((findK st.a s).getD Kd.zero), .bool (findK st.a s).isSome]) ∧ Below w.heap.size w w' := by
  have hxl := h.lt
  obtain ⟨A, c, hcell, hcap, hrow, _⟩ := h.atA
  obtain ⟨P, hP⟩ : ∃ P, st.a = P := ⟨_, rfl⟩
  rw [hP] at hcell hcap hrow hlen ⊢
  obtain ⟨n, hn⟩ : ∃ n, P.length = n := ⟨_, rfl⟩
  rw [hn] at hcell hcap hlen
  have hcx : (w.alloc (.cells #[.string ⟨#[]⟩, .string ⟨#[]⟩] 134)).cell? ⟨x, 2, none⟩ = some (.slice A n c) := (World.cell?_alloc_lt _ _ _ (show x < w.heap.size from hxl)).trans hcell
  have HR := Lib.hid hrow; have Hn := Lib.hid hn
  clear hrow hn hP h hcell
  go_enter Try.func72, Try.ntmps72
  go_wp2
  go_loopw [6] (fun nn wr => ∃ i : Nat, i ≤ n ∧ nn = .int .i64 i ∧ Hid (∀ j z, j < i → P[j]? = some z → Kd.key z ≠ s) ∧ wr = w.alloc (.cells #[.string ⟨#[]⟩, .string ⟨#[]⟩] 134)) (fun nn _ => n - (intOf nn).toNat)
  case atStart => exact ⟨0, Nat.zero_le _, rfl, fun j z h => absurd h (by omega), rfl⟩
  case round =>
    obtain ⟨i, hi, rfl, HI, rfl⟩ := hrel
    have b1 : (0 : Int) ≤ (i : Int) := by omega
    by_cases hlt : i < n
    · obtain ⟨ad, y, rfl, hab, hyk, hym, hc⟩ := HR.out.at_ (show i < P.length by rw [Hn.out]; exact hlt)
      have hc' : ∀ j v, (Kd.val y).cells[j]? = some v → (w.alloc (.cells #[.string ⟨#[]⟩, .string ⟨#[]⟩] 134)).cell? ((ad.add (i * 2)).add j) = some v := fun j v hj => (World.cell?_alloc_lt _ _ _ (by rw [block_of_add, block_of_add]; exact hab)).trans (hc j v hj)
      have e0 : (w.alloc (.cells #[.string ⟨#[]⟩, .string ⟨#[]⟩] 134)).cell? (ad.add (i * 2)) = some (.string y.name) := by have h := hc' 0 _ rfl; rw [show (ad.add (i * 2)).add 0 = ad.add (i * 2) from by rw [add_of_add]; rfl] at h; exact h
      have e1 : (w.alloc (.cells #[.string ⟨#[]⟩, .string ⟨#[]⟩] 134)).cell? ⟨(ad.add (i * 2)).block, (ad.add (i * 2)).off + 1, none⟩ = some (.string y.party) := hc' 1 _ rfl
      have HYK := Lib.hid hyk
      have b2 : (i : Int) < (n : Int) := by omega
      clear hc hc' hyk hym
      by_cases he : y.name = s
      · have hq : (y.name.toList == s.toList) = true := by rw [he]; simp
        have HF : Hid (findK P s = some y) := findK_at HI.out HYK.out he
        clear he
        go_wp2
        refine bodyPost_ret (results_cell_tmp_row rfl _ _ w.heap.size _ _ _ _ rfl (heap_alloc_new w _) Try.underlying134 rfl sizeA8) rfl ?_
        rw [HF.out]
        exact ⟨rfl, (Below.refl _ _).alloc (Nat.le_refl _) _⟩
      · have hq : (y.name.toList == s.toList) = false := by
          rw [beq_eq_false_iff_ne]
          exact fun e => he (toList_inj e)
        have HE := Lib.hid he
        clear he
        go_wp2
        go_roundw
        case rel =>
          refine ⟨i + 1, hlt, by go_num, fun j z hj hz => ?_, trivial⟩
          rcases Nat.lt_or_ge j i with h1 | h1
          · exact HI.out j z h1 hz
          · obtain rfl : j = i := by omega
            rw [HYK.out] at hz
            injection hz with hz
            subst hz
            exact HE.out
        case measure => simp [intOf]; omega
    · have hin : i = n := by omega
      have HF : Hid (findK P s = none) := findK_none (fun j z hj hz => HI.out j z (by rw [Hn.out] at hj; omega) hz)
      clear hin
      go_wp2
      refine bodyPost_ret (results_cell_tmp_row rfl _ _ w.heap.size _ _ _ _ rfl (heap_alloc_new w _) Try.underlying134 rfl sizeA8) rfl ?_
      rw [HF.out]
      exact ⟨rfl, (Below.refl _ _).alloc (Nat.le_refl _) _⟩
theorem sizeS8 : (Try.prog.info? 138).map (·.size) = some 8 := by kernel_rfl
theorem csS8 (y : Asset) : (Kd.val y).cells.size = 8 := rfl
theorem oneS8 (y : Asset) : ∀ u ∈ (Kd.val y).cells.toList, u.oneCell' = true := by
  intro u hu
  have h : u ∈ [.string y.name, .bool y.cash, .bool y.pledge, .int .i64 y.unit, .int .i64 y.least, .int .i64 y.price, .int .i64 y.cut, .int .i64 y.close] := hu
  simp only [List.mem_cons, List.not_mem_nil, or_false] at h
  rcases h with rfl | rfl | rfl | rfl | rfl | rfl | rfl | rfl <;> rfl
set_option maxHeartbeats 4000000 in
theorem lookS8_any (x : Nat) (st : R8) (s : ByteArray) (w : World) (h : R8At x st w) (hlen : st.s.length ≤ 9223372036854775807) :
    Calls Try.prog 73 #[.pointer (some ⟨x, 0, none⟩), .string s] w fun e w' => e = .returned (.tuple #[Kd.val ((findK st.s s).getD Kd.zero), .bool (findK st.s s).isSome]) ∧ Below w.heap.size w w' := by
  have hxl := h.lt
  obtain ⟨A, c, hcell, hcap, hrow, _⟩ := h.atS
  obtain ⟨P, hP⟩ : ∃ P, st.s = P := ⟨_, rfl⟩
  rw [hP] at hcell hcap hrow hlen ⊢
  obtain ⟨n, hn⟩ : ∃ n, P.length = n := ⟨_, rfl⟩
  rw [hn] at hcell hcap hlen
  have hcx : (w.alloc (.cells #[.string ⟨#[]⟩, .bool false, .bool false, .int .i64 0, .int .i64 0, .int .i64 0, .int .i64 0, .int .i64 0] 138)).cell? ⟨x, 3, none⟩ = some (.slice A n c) := (World.cell?_alloc_lt _ _ _ (show x < w.heap.size from hxl)).trans hcell
  have HR := Lib.hid hrow; have Hn := Lib.hid hn
  clear hrow hn hP h hcell
  go_enter Try.func73, Try.ntmps73
  go_wp2
  go_loopw [6] (fun nn wr => ∃ i : Nat, i ≤ n ∧ nn = .int .i64 i ∧ Hid (∀ j z, j < i → P[j]? = some z → Kd.key z ≠ s) ∧ wr = w.alloc (.cells #[.string ⟨#[]⟩, .bool false, .bool false, .int .i64 0, .int .i64 0, .int .i64 0, .int .i64 0, .int .i64 0] 138)) (fun nn _ => n - (intOf nn).toNat)
  case atStart => exact ⟨0, Nat.zero_le _, rfl, fun j z h => absurd h (by omega), rfl⟩
  case round =>
    obtain ⟨i, hi, rfl, HI, rfl⟩ := hrel
    have b1 : (0 : Int) ≤ (i : Int) := by omega
    by_cases hlt : i < n
    · obtain ⟨ad, y, rfl, hab, hyk, hym, hc⟩ := HR.out.at_ (show i < P.length by rw [Hn.out]; exact hlt)
      have hc' : ∀ j v, (Kd.val y).cells[j]? = some v → (w.alloc (.cells #[.string ⟨#[]⟩, .bool false, .bool false, .int .i64 0, .int .i64 0, .int .i64 0, .int .i64 0, .int .i64 0] 138)).cell? ((ad.add (i * 8)).add j) = some v := fun j v hj => (World.cell?_alloc_lt _ _ _ (by rw [block_of_add, block_of_add]; exact hab)).trans (hc j v hj)
      have e0 : (w.alloc (.cells #[.string ⟨#[]⟩, .bool false, .bool false, .int .i64 0, .int .i64 0, .int .i64 0, .int .i64 0, .int .i64 0] 138)).cell? (ad.add (i * 8)) = some (.string y.name) := by have h := hc' 0 _ rfl; rw [show (ad.add (i * 8)).add 0 = ad.add (i * 8) from by rw [add_of_add]; rfl] at h; exact h
      have e1 : (w.alloc (.cells #[.string ⟨#[]⟩, .bool false, .bool false, .int .i64 0, .int .i64 0, .int .i64 0, .int .i64 0, .int .i64 0] 138)).cell? ⟨(ad.add (i * 8)).block, (ad.add (i * 8)).off + 1, none⟩ = some (.bool y.cash) := hc' 1 _ rfl
      have e2 : (w.alloc (.cells #[.string ⟨#[]⟩, .bool false, .bool false, .int .i64 0, .int .i64 0, .int .i64 0, .int .i64 0, .int .i64 0] 138)).cell? ⟨(ad.add (i * 8)).block, (ad.add (i * 8)).off + 2, none⟩ = some (.bool y.pledge) := hc' 2 _ rfl
      have e3 : (w.alloc (.cells #[.string ⟨#[]⟩, .bool false, .bool false, .int .i64 0, .int .i64 0, .int .i64 0, .int .i64 0, .int .i64 0] 138)).cell? ⟨(ad.add (i * 8)).block, (ad.add (i * 8)).off + 3, none⟩ = some (.int .i64 y.unit) := hc' 3 _ rfl
      have e4 : (w.alloc (.cells #[.string ⟨#[]⟩, .bool false, .bool false, .int .i64 0, .int .i64 0, .int .i64 0, .int .i64 0, .int .i64 0] 138)).cell? ⟨(ad.add (i * 8)).block, (ad.add (i * 8)).off + 4, none⟩ = some (.int .i64 y.least) := hc' 4 _ rfl
      have e5 : (w.alloc (.cells #[.string ⟨#[]⟩, .bool false, .bool false, .int .i64 0, .int .i64 0, .int .i64 0, .int .i64 0, .int .i64 0] 138)).cell? ⟨(ad.add (i * 8)).block, (ad.add (i * 8)).off + 5, none⟩ = some (.int .i64 y.price) := hc' 5 _ rfl
      have e6 : (w.alloc (.cells #[.string ⟨#[]⟩, .bool false, .bool false, .int .i64 0, .int .i64 0, .int .i64 0, .int .i64 0, .int .i64 0] 138)).cell? ⟨(ad.add (i * 8)).block, (ad.add (i * 8)).off + 6, none⟩ = some (.int .i64 y.cut) := hc' 6 _ rfl
      have e7 : (w.alloc (.cells #[.string ⟨#[]⟩, .bool false, .bool false, .int .i64 0, .int .i64 0, .int .i64 0, .int .i64 0, .int .i64 0] 138)).cell? ⟨(ad.add (i * 8)).block, (ad.add (i * 8)).off + 7, none⟩ = some (.int .i64 y.close) := hc' 7 _ rfl
      have HYK := Lib.hid hyk
      have b2 : (i : Int) < (n : Int) := by omega
      clear hc hc' hyk hym
      by_cases he : y.name = s
      · have hq : (y.name.toList == s.toList) = true := by rw [he]; simp
        have HF : Hid (findK P s = some y) := findK_at HI.out HYK.out he
        clear he
        go_wp2
        refine bodyPost_ret (results_cell_tmp_row rfl _ _ w.heap.size _ _ _ _ rfl (heap_alloc_new w _) Try.underlying138 rfl sizeS8) rfl ?_
        rw [HF.out]
        exact ⟨rfl, (Below.refl _ _).alloc (Nat.le_refl _) _⟩
      · have hq : (y.name.toList == s.toList) = false := by
          rw [beq_eq_false_iff_ne]
          exact fun e => he (toList_inj e)
        have HE := Lib.hid he
        clear he
        go_wp2
        go_roundw
        case rel =>
          refine ⟨i + 1, hlt, by go_num, fun j z hj hz => ?_, trivial⟩
          rcases Nat.lt_or_ge j i with h1 | h1
          · exact HI.out j z h1 hz
          · obtain rfl : j = i := by omega
            rw [HYK.out] at hz
            injection hz with hz
            subst hz
            exact HE.out
        case measure => simp [intOf]; omega
    · have hin : i = n := by omega
      have HF : Hid (findK P s = none) := findK_none (fun j z hj hz => HI.out j z (by rw [Hn.out] at hj; omega) hz)
      clear hin
      go_wp2
      refine bodyPost_ret (results_cell_tmp_row rfl _ _ w.heap.size _ _ _ _ rfl (heap_alloc_new w _) Try.underlying138 rfl sizeS8) rfl ?_
      rw [HF.out]
      exact ⟨rfl, (Below.refl _ _).alloc (Nat.le_refl _) _⟩
end Go.Proofs.Ytkcecijepbceiaa
