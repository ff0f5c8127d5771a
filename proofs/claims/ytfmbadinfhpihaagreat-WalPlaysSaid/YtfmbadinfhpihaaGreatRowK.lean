/-
  Rows of records in memory: cells, reading, a row that is owned, a cell changed.
  Conditions: each lemma's own premises.
-/
import Derived.Test.YtfmbadinfhpihaaGreatDiskPlain
import Derived.Test.YtfmbadinfhpihaaGreatBuilder
import Derived.WalkKit
import Derived.Lib.Hide
import Derived.Deep.DeepCutAuto
import Derived.KernelRfl
import Derived.WalkSpells
import Derived.Test.YtfmbadinfhpihaaGreatProg
import Derived.Deep.QuietTactic
import Derived.BigQuiet
import Derived.Deep.RegionHeld3
import Derived.Deep.DrawnRows
import Derived.Test.YtfmbadinfhpihaaGreatWords2
import Derived.Deep.CutBlock
set_option linter.unusedVariables false
set_option linter.unusedSimpArgs false
namespace Go.Proofs.YtfmbadinfhpihaaGreat
open Go.RowKit
attribute [local go_sem ↓] Go.wp_at_zero Go.wp_at_succ
set_option maxRecDepth 100000

theorem take_more {a b : ByteArray} {i : Nat} (ha : i < a.size) (hb : i < b.size) (he : a.data.toList.take i = b.data.toList.take i) (h : a[i].toNat = b[i].toNat) : a.data.toList.take (i + 1) = b.data.toList.take (i + 1) := by
  rw [take_snoc (byte_at a ha), take_snoc (byte_at b hb), he, UInt8.toNat_inj.1 h]
set_option maxHeartbeats 1000000 in
theorem rcompare_any (a b : ByteArray) (ha : a.size ≤ 9223372036854775807) (_hb : b.size ≤ 9223372036854775807) (w : World) : Calls Tryz.prog 164 #[.string a, .string b] w fun e w' => e = .returned (.int .i64 (cmpS a b)) ∧ ∃ q, w' = w.drewN q := by
  obtain ⟨c, hc⟩ : ∃ c, cmpS a b = c := ⟨_, rfl⟩
  have HC := Lib.hid hc
  rw [hc]
  clear hc
  go_enter Tryz.func164, Tryz.ntmps164
  go_wp2
  go_loopw [5] (fun i wr => ∃ k q : Nat, k ≤ a.size ∧ k ≤ b.size ∧ i = .int .i64 k ∧ Hid (a.data.toList.take k = b.data.toList.take k) ∧ wr = w.drewN q) (fun i _ => a.size - (intOf i).toNat)
  case atStart => exact ⟨0, 0, Nat.zero_le _, Nat.zero_le _, rfl, rfl, rfl⟩
  case round =>
    obtain ⟨k, q, hka, hkb, rfl, HE, rfl⟩ := hrel
    by_cases h1 : k < a.size
    · by_cases h2 : k < b.size
      · have b1 := a[k].toNat_lt
        have b2 := b[k].toNat_lt
        by_cases hlt : a[k].toNat < b[k].toNat
        · have hf : c = -1 := by rw [← HC.out]; exact cmp_first h1 h2 HE.out hlt
          subst hf
          go_wp2
          go_quiet (fail)
          go_wp2
          go_ret
          exact ⟨rfl, _, World.drewN_drewN _ _ _⟩
        · by_cases hgt : b[k].toNat < a[k].toNat
          · have hf : c = 1 := by rw [← HC.out]; exact cmp_first' h1 h2 HE.out hgt
            subst hf
            go_wp2
            go_quiet (fail)
            go_wp2
            go_quiet (fail)
            go_wp2
            go_ret
            exact ⟨rfl, _, by rw [World.drewN_drewN, World.drewN_drewN]⟩
          · have HN := Lib.hid (take_more h1 h2 HE.out (by omega))
            go_wp2
            go_quiet (fail)
            go_wp2
            go_quiet (fail)
            go_wp2
            go_roundw
            case rel => exact ⟨k + 1, _, h1, h2, by go_num, HN.out, rfl⟩
            case measure => simp [intOf]; omega
      · have hkb2 : k = b.size := by omega
        subst hkb2
        have hf : c = 1 := by rw [← HC.out]; exact cmp_short' HE.out h1
        subst hf
        go_wp2
        go_ret
        exact ⟨rfl, _, rfl⟩
    · have hka2 : k = a.size := by omega
      subst hka2
      by_cases h2 : a.size < b.size
      · have hf : c = -1 := by rw [← HC.out]; exact cmp_short HE.out h2
        subst hf
        go_wp2
        go_ret
        exact ⟨rfl, _, rfl⟩
      · have hs : a.size = b.size := by omega
        have hf : c = 0 := by rw [← HC.out]; exact cmp_whole HE.out hs
        subst hf
        go_wp2
        go_ret
        exact ⟨rfl, _, rfl⟩
end Go.Proofs.YtfmbadinfhpihaaGreat
namespace Go.Proofs.YtfmbadinfhpihaaGreat
open Go.RowKit Go.Maps
attribute [local go_sem ↓] Go.wp_at_zero Go.wp_at_succ
set_option maxRecDepth 100000

section
variable {α : Type} [Kd α]
/-- Records in memory. -/
structure RowsAt (w : World) (B : Nat) (A : Option Addr) (n : Nat) (l : List α) : Prop where
  row : 0 < l.length → ∃ ad, A = some ad ∧ ad.block < B ∧ ∀ k x, l[k]? = some x → ∀ j v, (Kd.val x).cells[j]? = some v → w.cell? ((ad.add (k * n)).add j) = some v
theorem RowsAt.at_ {w : World} {B n : Nat} {A : Option Addr} {l : List α} (h : RowsAt w B A n l) {k : Nat} (hk : k < l.length) :
    ∃ ad x, A = some ad ∧ ad.block < B ∧ l[k]? = some x ∧ x ∈ l ∧ ∀ j v, (Kd.val x).cells[j]? = some v → w.cell? ((ad.add (k * n)).add j) = some v := by
  obtain ⟨ad, e, hB, hc⟩ := h.row (by omega)
  exact ⟨ad, l[k], e, hB, List.getElem?_eq_getElem hk, List.getElem_mem hk, hc k _ (List.getElem?_eq_getElem hk)⟩
end
theorem RowsAt.below {α : Type} [Kd α] {w w' : World} {n : Nat} {A : Option Addr} {l : List α} (h : RowsAt w w.heap.size A n l) (hb : Below w.heap.size w w') : RowsAt w' w'.heap.size A n l := ⟨fun hn => by
  obtain ⟨ad, e, hB, hc⟩ := h.row hn
  exact ⟨ad, e, Nat.lt_of_lt_of_le hB hb.size, fun k x hx j v hv => (hb.cell (by rw [block_of_add, block_of_add]; exact hB)).trans (hc k x hx j v hv)⟩⟩
section
variable {α : Type} [Kd α]
def cellsOf (l : List α) : List Value := l.flatMap fun x => (Kd.val x).cells.toList
theorem cellsOf_len {N : Nat} {l : List α} (hN : ∀ x ∈ l, (Kd.val x).cells.size = N) : (cellsOf l).length = l.length * N := by
  induction l with
  | nil => simp [cellsOf]
  | cons y l ih =>
    have h1 := ih (fun x hx => hN x (by simp [hx]))
    have h2 := hN y (by simp)
    unfold cellsOf at h1 ⊢
    rw [List.flatMap_cons, List.length_append, h1, Array.length_toList, h2, List.length_cons, Nat.succ_mul, Nat.add_comm]
theorem cells_at {N : Nat} : ∀ {l : List α}, (∀ x ∈ l, (Kd.val x).cells.size = N) → ∀ {k : Nat} {x : α}, l[k]? = some x → ∀ {j : Nat} {v : Value}, (Kd.val x).cells[j]? = some v → (cellsOf l)[k * N + j]? = some v
  | [], _, k, x, h, _, _, _ => by simp at h
  | y :: l, hN, k, x, h, j, v, hv => by
    have hy : (Kd.val y).cells.toList.length = N := by rw [Array.length_toList]; exact hN y (by simp)
    rw [← Array.getElem?_toList] at hv
    have e : cellsOf (y :: l) = (Kd.val y).cells.toList ++ cellsOf l := rfl
    rw [e]
    cases k with
    | zero =>
      simp at h
      subst h
      rw [Nat.zero_mul, Nat.zero_add, List.getElem?_append_left (List.getElem?_eq_some_iff.1 hv).1]
      exact hv
    | succ k =>
      simp only [List.getElem?_cons_succ] at h
      rw [List.getElem?_append_right (by rw [hy, Nat.succ_mul]; omega), hy, show (k + 1) * N + j - N = k * N + j by rw [Nat.succ_mul]; omega]
      exact cells_at (fun x hx => hN x (by simp [hx])) h (by rw [← Array.getElem?_toList]; exact hv)
theorem cells_inv {N : Nat} : ∀ {l : List α}, (∀ x ∈ l, (Kd.val x).cells.size = N) → ∀ {i : Nat} {v : Value}, (cellsOf l)[i]? = some v → ∃ k j x, i = k * N + j ∧ l[k]? = some x ∧ (Kd.val x).cells[j]? = some v
  | [], _, i, v, h => by simp [cellsOf] at h
  | y :: l, hN, i, v, h => by
    have hy : (Kd.val y).cells.toList.length = N := by rw [Array.length_toList]; exact hN y (by simp)
    have e : cellsOf (y :: l) = (Kd.val y).cells.toList ++ cellsOf l := rfl
    rw [e] at h
    rcases Nat.lt_or_ge i N with hi | hi
    · rw [List.getElem?_append_left (by omega), Array.getElem?_toList] at h
      exact ⟨0, i, y, by simp, rfl, h⟩
    · rw [List.getElem?_append_right (by omega), hy] at h
      obtain ⟨k, j, x, h1, h2, h3⟩ := cells_inv (fun x hx => hN x (by simp [hx])) h
      exact ⟨k + 1, j, x, by rw [Nat.succ_mul]; omega, h2, h3⟩
theorem cellsOf_one (l : List α) (h1 : ∀ x : α, ∀ u ∈ (Kd.val x).cells.toList, u.oneCell' = true) : ∀ u ∈ cellsOf l, u.oneCell' = true := fun u hu => by
  obtain ⟨x, _, hx⟩ := List.mem_flatMap.1 hu
  exact h1 x u hx
theorem RowsAt.reads {w : World} {B N : Nat} {A : Option Addr} {l : List α} (h : RowsAt w B A N l) (hN : ∀ x ∈ l, (Kd.val x).cells.size = N) : Reads w B N A l.length (cellsOf l) := by
  refine ⟨cellsOf_len hN, fun hn => ?_⟩
  obtain ⟨ad, e, hb, hc⟩ := h.row hn
  refine ⟨ad, e, hb, fun i u hu => ?_⟩
  obtain ⟨k, j, x, rfl, h2, h3⟩ := cells_inv hN hu
  rw [← add_of_add]
  exact hc k x h2 j u h3
theorem RowsAt.take {w : World} {B N : Nat} {A : Option Addr} {l : List α} (h : RowsAt w B A N l) (k : Nat) : RowsAt w B A N (l.take k) := ⟨fun hn => by
  obtain ⟨ad, e, hb, hc⟩ := h.row (by rw [List.length_take] at hn; omega)
  refine ⟨ad, e, hb, fun i x hx j v hv => hc i x ?_ j v hv⟩
  rw [List.getElem?_take] at hx
  split at hx
  · exact hx
  · cases hx⟩
theorem cellsOf_drop {N : Nat} : ∀ {l : List α}, (∀ x ∈ l, (Kd.val x).cells.size = N) → ∀ k, cellsOf (l.drop k) = (cellsOf l).drop (k * N)
  | [], _, k => by simp [cellsOf]
  | y :: l, hN, 0 => by simp
  | y :: l, hN, k + 1 => by
    have hy : (Kd.val y).cells.toList.length = N := by rw [Array.length_toList]; exact hN y (by simp)
    have e : cellsOf (y :: l) = (Kd.val y).cells.toList ++ cellsOf l := rfl
    have h1 : (Kd.val y).cells.toList.drop ((k + 1) * N) = [] := List.drop_of_length_le (by rw [hy, Nat.succ_mul]; omega)
    rw [List.drop_succ_cons, e, cellsOf_drop (fun x hx => hN x (by simp [hx])) k, List.drop_append, h1, hy, List.nil_append, show (k + 1) * N - N = k * N by rw [Nat.succ_mul]; omega]
theorem cellsOf_app (l m : List α) : cellsOf (l ++ m) = cellsOf l ++ cellsOf m := by simp [cellsOf]
theorem rows_own {w : World} {base N : Nat} {e : TypeId} {v : Value} {n : Nat} {l : List α} (h : w.ownsRow base e N v n (cellsOf l)) (hn : l.length = n) (hN : ∀ x ∈ l, (Kd.val x).cells.size = N) : ∃ A cap, v = .slice A n cap ∧ n ≤ cap ∧ RowsAt w w.heap.size A N l ∧ ∀ ad, A = some ad → base ≤ ad.block := by
  subst hn
  rcases h.2 with ⟨rfl, hx⟩ | ⟨g, cap, cur, rfl, hb, hh, hcc, _⟩
  · have : l.length = 0 := by
      have h1 := h.1
      rw [hx] at h1
      rcases Nat.eq_zero_or_pos l.length with h2 | h2
      · exact h2
      · have := hx
        omega
    exact ⟨none, 0, by rw [this], by omega, ⟨fun hn => by omega⟩, fun ad e => by cases e⟩
  · have hr := Reads.of_own h
    refine ⟨_, _, rfl, hcc, ⟨fun hn => ?_⟩, fun ad e => by injection e with e; subst e; exact hb⟩
    obtain ⟨ad, e1, hlt, hc⟩ := hr.2 hn
    refine ⟨ad, e1, hlt, fun k x hx j u hu => ?_⟩
    rw [add_of_add]
    exact hc _ u (cells_at hN hx hu)
theorem rows_newN (w : World) (l : List α) (T : TypeId) (cs : Array Value) {N : Nat} (hcs : cs.toList = cellsOf l) (hN : ∀ x ∈ l, (Kd.val x).cells.size = N) : RowsAt (w.alloc (.cells cs T)) (w.alloc (.cells cs T)).heap.size (some ⟨w.heap.size, 0, none⟩) N l := by
  refine ⟨fun _ => ⟨_, rfl, by simp, fun k x hx j u hu => ?_⟩⟩
  rw [add_of_add]
  have h : (w.alloc (.cells cs T)).heap[w.heap.size]? = some (.cells cs T (0, 0)) := heap_alloc_new w _
  have e : ∀ j, ((⟨w.heap.size, 0, none⟩ : Addr).add j) = ⟨w.heap.size, j, none⟩ := by
    intro j
    unfold Addr.add; split
    · rename_i h; subst h; rfl
    · simp
  rw [e]
  simp only [World.cell?, h]
  have := cells_at hN hx hu
  rw [← hcs] at this
  simpa using this
theorem RowsAt.more {w : World} {B B' N : Nat} {A : Option Addr} {l : List α} (h : RowsAt w B A N l) (hB : B ≤ B') : RowsAt w B' A N l := ⟨fun hn => by
  obtain ⟨ad, e, hb, hc⟩ := h.row hn
  exact ⟨ad, e, by omega, hc⟩⟩
theorem RowsAt.mvx {w w' : World} {x N : Nat} {S' : List Nat} {A : Option Addr} {l : List α} (h : RowsAt w w.heap.size A N l) (hm : Mv [x] S' w w') (ho : 0 < l.length → ∀ ad, A = some ad → ad.block ≠ x) : RowsAt w' w'.heap.size A N l := ⟨fun hn => by
  obtain ⟨ad, e, hb, hc⟩ := h.row hn
  refine ⟨ad, e, Nat.lt_of_lt_of_le hb hm.size, fun k y hy j v hv => ?_⟩
  rw [World.cell?_of_block (w := w) (w' := w') (by rw [block_of_add, block_of_add]; exact hm.block _ hb (by simpa using ho hn ad e))]
  exact hc k y hy j v hv⟩
theorem findK_at {P : List α} {s : ByteArray} {k : Nat} {y : α} (h : ∀ i z, i < k → P[i]? = some z → Kd.key z ≠ s) (hk : P[k]? = some y) (hy : Kd.key y = s) : findK P s = some y := by
  unfold findK
  have hsp : P = P.take k ++ P.drop k := (List.take_append_drop _ _).symm
  have hd : P.drop k = y :: P.drop (k + 1) := by
    obtain ⟨hlt, he⟩ := List.getElem?_eq_some_iff.1 hk
    rw [List.drop_eq_getElem_cons hlt, he]
  have h0 : (P.take k).find? (isK s) = none := by
    rw [List.find?_eq_none]
    intro z hz e
    obtain ⟨i, hi⟩ := List.mem_iff_getElem?.1 hz
    rw [List.getElem?_take] at hi
    split at hi
    · exact h i z (by assumption) hi (isK_iff.1 e)
    · cases hi
  rw [hsp, List.find?_append, h0, hd, Option.none_or, List.find?_cons, isK_iff.2 hy]
theorem findK_none {P : List α} {s : ByteArray} (h : ∀ i z, i < P.length → P[i]? = some z → Kd.key z ≠ s) : findK P s = none := by
  unfold findK
  rw [List.find?_eq_none]
  intro z hz e
  obtain ⟨i, hi⟩ := List.mem_iff_getElem?.1 hz
  exact h i z (List.getElem?_eq_some_iff.1 hi).1 hi (isK_iff.1 e)
end
theorem info_all {T : TypeId} {N B : Nat} (h : (Tryz.prog.info? T).map (fun i => (i.zero.map (·.cells.size), i.size, i.bytes)) = some (some N, N, B)) : ∃ i z, Tryz.prog.info? T = some i ∧ i.zero = some z ∧ i.size = N ∧ i.bytes = B ∧ z.cells.size = N := by
  cases hi : Tryz.prog.info? T with
  | none => rw [hi] at h; cases h
  | some i =>
    rw [hi] at h
    simp only [Option.map_some, Option.some.injEq, Prod.mk.injEq, Option.map_eq_some_iff] at h
    obtain ⟨⟨z, h1, h2⟩, h3, h4⟩ := h
    exact ⟨i, z, rfl, h1, h3, h4, h2⟩

theorem own_keep' {w w' : World} {base : Nat} {e : TypeId} {size : Nat} {v : Value} {n : Nat} {xs : List Value} (h : w.ownsRow base e size v n xs) (hb : ∀ k, v.ownBlock = some k → w'.heap[k]? = w.heap[k]?) : w'.ownsRow base e size v n xs := by
  refine ⟨h.1, ?_⟩
  rcases h.2 with hn | ⟨g, cap, cur, rfl, hbg, hg, rest⟩
  · exact .inl hn
  · exact .inr ⟨g, cap, cur, rfl, hbg, (hb g (by simp [Value.ownBlock])).trans hg, rest⟩
/-- A whole struct read out of a block, in a region that draws its order. -/
theorem yields_row8 {P : Program} {ops : Array Oper} {S : World → Prop} {op : Oper} {a : Act} (hw : Region.wanted op (yielded ops a.tmps) = true) (ty : TypeId) (x : Operand) (ho : op.op = .load ty x)
    (g : Nat) (hx : a.eval x = .pointer (some ⟨g, 0, none⟩)) (t : TypeId) (cs : Array Value) (d : TypeDesc) (hS : ∀ w, S w → w.heap[g]? = some (.cells cs t (0, 0)))
    (hu : P.underlying ty = some d) (hd : (match d with | .struct _ | .array _ _ => true | _ => false) = true) (hi : (P.info? ty).map (·.size) = some cs.size) : YieldsIf P ops S op (.agg cs) a :=
  .inl ⟨hw, fun w hw' => by
    unfold execOp
    simp only [ho, hx, Instr.loadAt, Instr.sureAddr, Sem.run_bind, Sem.run_pure, Result.andThen_ok, run_loadVar_row w g t ty cs (0, 0) d (hS w hw') hu hd hi]⟩
theorem reads_newN (w : World) (xs : List Value) (t : TypeId) (cs : Array Value) (hcs : cs.toList = xs) {N : Nat} (hn : xs.length = N) : Reads (w.alloc (.cells cs t)) (w.heap.size + 1) N (some ⟨w.heap.size, 0, none⟩) 1 xs := by
  subst hn
  refine ⟨by omega, fun _ => ⟨_, rfl, Nat.lt_succ_self _, fun j u hu => ?_⟩⟩
  have h : (w.alloc (.cells cs t)).heap[w.heap.size]? = some (.cells cs t (0, 0)) := heap_alloc_new w _
  have e : ((⟨w.heap.size, 0, none⟩ : Addr).add j) = ⟨w.heap.size, j, none⟩ := by
    unfold Addr.add; split
    · rename_i h; subst h; rfl
    · simp
  rw [e]
  simp only [World.cell?, h]
  rw [← hcs] at hu
  simpa using hu
theorem ltk_take {α : Type} [Kd α] {P : List α} {j : Nat} {a : α} {s : ByteArray} (ha : P[j]? = some a) (h : ∀ i z, i < j → P[i]? = some z → (Kd.key z).data.toList < s.data.toList) (hlt : (Kd.key a).data.toList < s.data.toList) : ∀ i z, i < j + 1 → P[i]? = some z → (Kd.key z).data.toList < s.data.toList := by
  intro i z hi hz
  rcases Nat.lt_or_ge i j with h1 | h1
  · exact h i z h1 hz
  · obtain rfl : i = j := by omega
    rw [ha] at hz
    injection hz with hz
    subst hz
    exact hlt
section
variable {α : Type} [Kd α]
/-- One cell of a record changed in a row of records. -/
theorem cells_upd {N j : Nat} {v : Value} : ∀ {P : List α} {k : Nat} {y y' : α}, (∀ x ∈ P, (Kd.val x).cells.size = N) → P[k]? = some y → (Kd.val y').cells.toList = (Kd.val y).cells.toList.set j v → j < N → (cellsOf P).set (k * N + j) v = cellsOf (P.set k y')
  | [], _, _, _, _, hk, _, _ => by simp at hk
  | y0 :: P, 0, y, y', hN, hk, hy, hj => by
    obtain rfl : y0 = y := by simpa using hk
    have hl : (Kd.val y0).cells.toList.length = N := by rw [Array.length_toList]; exact hN y0 (by simp)
    have e : cellsOf (y0 :: P) = (Kd.val y0).cells.toList ++ cellsOf P := rfl
    have e' : cellsOf (y' :: P) = (Kd.val y').cells.toList ++ cellsOf P := rfl
    rw [List.set_cons_zero, e, e', hy, Nat.zero_mul, Nat.zero_add, List.set_append_left _ _ (by rw [hl]; exact hj)]
  | y0 :: P, k + 1, y, y', hN, hk, hy, hj => by
    have hl : (Kd.val y0).cells.toList.length = N := by rw [Array.length_toList]; exact hN y0 (by simp)
    have e : cellsOf (y0 :: P) = (Kd.val y0).cells.toList ++ cellsOf P := rfl
    have e' : cellsOf (y0 :: P.set k y') = (Kd.val y0).cells.toList ++ cellsOf (P.set k y') := rfl
    rw [List.set_cons_succ, e, e', List.set_append_right _ _ (by rw [hl, Nat.succ_mul]; omega), hl, show (k + 1) * N + j - N = k * N + j by rw [Nat.succ_mul]; omega,
      cells_upd (fun x hx => hN x (by simp [hx])) (by simpa using hk) hy hj]
end
end Go.Proofs.YtfmbadinfhpihaaGreat
