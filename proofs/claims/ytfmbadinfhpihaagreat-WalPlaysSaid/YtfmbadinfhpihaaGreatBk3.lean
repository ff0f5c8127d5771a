/-
  The book with lists of texts: still as they were; marked.
  Conditions: lists that nobody else holds.
-/
import Derived.Test.YtfmbadinfhpihaaGreatWords2
import Derived.Test.YtfmbadinfhpihaaGreatBuilder
import Derived.Deep.QuietTactic
import Derived.BigQuiet
import Derived.Lib.Hide
import Derived.LoopN
import Derived.WalkKit
import Derived.Test.YtfmbadinfhpihaaGreatProg
import Derived.Deep.RegionHeld3
import Derived.Deep.RegionLaw
import Derived.Deep.DrawnRows
set_option linter.unusedVariables false
set_option linter.unusedSimpArgs false
namespace Go.Proofs.YtfmbadinfhpihaaGreat.Bk
open Go.RowKit

theorem bk_info_str : (Tryz.prog.info? 9).map (fun i => (i.zero, i.size, i.bytes)) = some (some (.string ⟨#[]⟩), 1, 16) := by kernel_rfl
/-- An append: what the row held ahead of it, it holds still. -/
theorem run_append_keep {P : Program} (w : World) (base : Nat) (t ty e : TypeId) (i : TypeInfo) (z : Value) (size bytes : Nat) (ht : P.underlying t = some (.slice e)) (hi : P.info? e = some i) (hz : i.zero = some z)
    (hsize : i.size = size) (hby : i.bytes = bytes) (hzs : z.cells.size = size) (hsz : 0 < size)
    (v : Value) (n : Nat) (xs : List Value) (hown : w.ownsRow base e size v n xs)
    (B : Nat) (A : Option Addr) (m c : Nat) (news : List Value) (hr : Reads w B size A m news) (h1 : ∀ u ∈ news, u.oneCell' = true)
    (h63 : n + m ≤ maxLen) (hbytes : (n + m) * bytes ≤ 140737488355328) (hbase : base ≤ w.heap.size) :
    ∃ v' w', (Builtin.append_ #[t, t] ty #[v, .slice A m c]).run P w = .ok v' w' ∧ w'.ownsRow base e size v' (n + m) (xs ++ news) ∧ w'.ownsRow base e size v n xs ∧ w.grownBy w' v.ownBlock ∧
      (v'.ownBlock = v.ownBlock ∨ v'.ownBlock = some w.heap.size) := by
  obtain ⟨v', w', hrun, h2, h3, h4⟩ := run_append_any (P := P) w base t ty e i z size bytes ht hi hz hsize hby hzs hsz v n xs hown B A m c news hr h1 h63 hbytes hbase
  refine ⟨v', w', hrun, h2, ⟨hown.1, ?_⟩, h3, h4⟩
  rcases hown.2 with hnil | ⟨g, cap, cur, rfl, hbg, hg, hnc, hcm, hcs, htake⟩
  · exact .inl hnil
  · refine .inr ?_
    by_cases hroom : n + m ≤ cap
    · rcases A with _ | ad
      · have hm : m = 0 := by
          rcases Nat.eq_zero_or_pos m with h0 | h0
          · exact h0
          · obtain ⟨ad, h, _⟩ := hr.2 h0
            cases h
        subst hm
        have hr2 := run_append_of_nil (P := P) w base t ty e i size ht hi _ n xs hown c
        rw [hrun] at hr2
        injection hr2 with e1 e2
        subst e1 e2
        exact ⟨g, cap, cur, rfl, hbg, hg, hnc, hcm, hcs, htake⟩
      · have hcells : ∀ j u, news[j]? = some u → w.cell? (ad.add j) = some u := by
          intro j u hu
          rcases Nat.eq_zero_or_pos m with h0 | h0
          · subst h0
            have hn : news = [] := List.eq_nil_of_length_eq_zero (by simpa using hr.1)
            subst hn
            simp at hu
          · obtain ⟨ad', h, _, hc⟩ := hr.2 h0
            injection h with h
            subst h
            exact hc j u hu
        have hfit : n * i.size + news.length ≤ cur.size := by rw [hr.1, hcs, hsize, ← Nat.add_mul]; exact Nat.mul_le_mul_right _ hroom
        have hr2 := run_append_room (P := P) w t ty e i ht hi g n cap cur hg ad m c news (by rw [hr.1, hsize]) hcells h1 hroom hfit
        rw [hrun] at hr2
        injection hr2 with e1 e2
        subst e1 e2
        refine ⟨g, cap, _, rfl, hbg, setRow_heap w g cur _ e _ hg, hnc, hcm, ?_, ?_⟩
        · simp only [List.size_toArray, List.length_append, List.length_take, List.length_drop, Array.length_toList]
          rw [← hcs]
          omega
        · rw [hsize]
          have hl : (cur.toList.take (n * size)).length = n * size := by rw [htake]; exact hown.1
          rw [List.append_assoc, List.take_append_of_le_length (by rw [hl]; exact Nat.le_refl _), List.take_of_length_le (by rw [hl]; exact Nat.le_refl _)]
          exact htake
    · have hgrow : w'.heap[g]? = w.heap[g]? := by
        rcases A with _ | ad
        · have hm : m = 0 := by
            rcases Nat.eq_zero_or_pos m with h0 | h0
            · exact h0
            · obtain ⟨ad, h, _⟩ := hr.2 h0
              cases h
          omega
        · have hcells : ∀ j u, news[j]? = some u → w.cell? (ad.add j) = some u := by
            intro j u hu
            obtain ⟨ad', h, _, hc⟩ := hr.2 (by omega)
            injection h with h
            subst h
            exact hc j u hu
          have hsmall : n + m ≤ 9223372036854775807 := by simp only [maxLen] at h63; omega
          have hr2 := run_append_grow (P := P) w t ty e i z ht hi hz ⟨g, 0, none⟩ n cap xs (by rw [hsize]; exact hown.1) (hown.cells (g := g) rfl) ad m c news (by rw [hr.1, hsize]) hcells (by omega) (by omega) (by rw [hby]; exact growslice_fits (by omega) hbytes)
          rw [hrun] at hr2
          injection hr2 with e1 e2
          subst e2
          exact Below.heap_alloc w.drew _ g (Array.getElem?_eq_some_iff.1 hg).1
      exact ⟨g, cap, cur, rfl, hbg, hgrow.trans hg, hnc, hcm, hcs, htake⟩
/-- The operation. -/
theorem wpList_append_keep {P : Program} {w : World} {ops : Array Oper} {rest : List Oper} {o : Oper} {a : Act} {Q : Exit → Act → World → Prop} (hgd : o.guard = none) (s x : Operand) (t : TypeId)
    (ho : o.op = .call { callee := .builtin .append, args := #[s, x], argTypes := #[t, t] })
    (base : Nat) (e : TypeId) (i : TypeInfo) (z : Value) (size bytes : Nat) (ht : P.underlying t = some (.slice e)) (hi : P.info? e = some i) (hz : i.zero = some z)
    (hsize : i.size = size) (hby : i.bytes = bytes) (hzs : z.cells.size = size) (hsz : 0 < size)
    (v : Value) (n : Nat) (xs : List Value) (hs : a.eval s = v) (hown : w.ownsRow base e size v n xs)
    (B : Nat) (A : Option Addr) (m c : Nat) (news : List Value) (hx : a.eval x = .slice A m c) (hr : Reads w B size A m news) (h1 : ∀ u ∈ news, u.oneCell' = true)
    (h63 : n + m ≤ maxLen) (hbytes : (n + m) * bytes ≤ 140737488355328) (hbase : base ≤ w.heap.size)
    (h : ∀ v' w', w'.ownsRow base e size v' (n + m) (xs ++ news) → w'.ownsRow base e size v n xs → w.grownBy w' v.ownBlock → (v'.ownBlock = v.ownBlock ∨ v'.ownBlock = some w.heap.size) → wpList P ops Q rest (a.put o.dst v') w') : wpList P ops Q (o :: rest) a w := by
  refine wpList_plain hgd fun _ hK => ?_
  obtain ⟨v', w', hrun, h2, h3, h4, h5⟩ := run_append_keep (P := P) w base t o.type e i z size bytes ht hi hz hsize hby hzs hsz v n xs hown B A m c news hr h1 h63 hbytes hbase
  unfold Oper.wp execOp
  simp only [ho, resolve, invoke, builtin, Sem.run_bind, Sem.run_pure, Result.andThen_ok, List.map_toArray, List.map_cons, List.map_nil, hs, hx, hrun]
  exact hK _ _ (h v' w' h2 h3 h4 h5)
/-- The mark of list i at place k. -/
def nmL (i k : Nat) : List UInt8 := [109, UInt8.ofNat (65 + i % 26), UInt8.ofNat (65 + i / 26 % 26), UInt8.ofNat (48 + k % 10), UInt8.ofNat (48 + k / 10 % 10), UInt8.ofNat (48 + k / 100 % 10)]
def nm (i k : Nat) : ByteArray := ⟨(nmL i k).toArray⟩
theorem u8_small {x : Nat} (h : x < 256) : (UInt8.ofNat x).toNat = x := by rw [UInt8.toNat_ofNat']; omega
set_option maxHeartbeats 1000000 in
set_option maxRecDepth 100000 in
theorem name_any (i k : Nat) (hi : i ≤ 1000000000) (hk : k ≤ 1000000000000) (w : World) :
    Calls Tryz.prog 227 #[.int .i64 i, .int .i64 k] w fun e w' => e = .returned (.string (nm i k)) ∧ Below w.heap.size w w' := by
  obtain ⟨a1, h1⟩ : ∃ a1 : Nat, a1 = 65 + i % 26 := ⟨_, rfl⟩
  obtain ⟨a2, h2⟩ : ∃ a2 : Nat, a2 = 65 + i / 26 % 26 := ⟨_, rfl⟩
  obtain ⟨a3, h3⟩ : ∃ a3 : Nat, a3 = 48 + k % 10 := ⟨_, rfl⟩
  obtain ⟨a4, h4⟩ : ∃ a4 : Nat, a4 = 48 + k / 10 % 10 := ⟨_, rfl⟩
  obtain ⟨a5, h5⟩ : ∃ a5 : Nat, a5 = 48 + k / 100 % 10 := ⟨_, rfl⟩
  have e1 : (65 : Int) + (i : Int) % 26 = (a1 : Int) := by omega
  have e2 : (65 : Int) + (i : Int) / 26 % 26 = (a2 : Int) := by omega
  have e3 : (48 : Int) + (k : Int) % 10 = (a3 : Int) := by omega
  have e4 : (48 : Int) + (k : Int) / 10 % 10 = (a4 : Int) := by omega
  have e5 : (48 : Int) + (k : Int) / 100 % 10 = (a5 : Int) := by omega
  have l1 : a1 < 256 := by omega
  have l2 : a2 < 256 := by omega
  have l3 : a3 < 256 := by omega
  have l4 : a4 < 256 := by omega
  have l5 : a5 < 256 := by omega
  have HN : Hid (nm i k = ⟨[109, UInt8.ofNat a1, UInt8.ofNat a2, UInt8.ofNat a3, UInt8.ofNat a4, UInt8.ofNat a5].toArray⟩) := by show _ = _; rw [h1, h2, h3, h4, h5]; rfl
  have HC : Hid (∀ (t : TypeId), (convert 48 9 (.slice (some ⟨w.heap.size, 0, none⟩) 6 6)).run Tryz.prog (w.alloc (.cells #[.int .u8 109, .int .u8 (a1 : Int), .int .u8 (a2 : Int), .int .u8 (a3 : Int), .int .u8 (a4 : Int), .int .u8 (a5 : Int)] t)) = .ok (.string ⟨[109, UInt8.ofNat a1, UInt8.ofNat a2, UInt8.ofNat a3, UInt8.ofNat a4, UInt8.ofNat a5].toArray⟩) (w.alloc (.cells #[.int .u8 109, .int .u8 (a1 : Int), .int .u8 (a2 : Int), .int .u8 (a3 : Int), .int .u8 (a4 : Int), .int .u8 (a5 : Int)] t))) := by
    intro t
    have hb : Lib.byteCells [109, UInt8.ofNat a1, UInt8.ofNat a2, UInt8.ofNat a3, UInt8.ofNat a4, UInt8.ofNat a5] = [.int .u8 109, .int .u8 (a1 : Int), .int .u8 (a2 : Int), .int .u8 (a3 : Int), .int .u8 (a4 : Int), .int .u8 (a5 : Int)] := by
      simp only [Lib.byteCells, List.map_cons, List.map_nil, u8_small l1, u8_small l2, u8_small l3, u8_small l4, u8_small l5]
      rfl
    exact run_bytes_string (B := w.heap.size + 1) (P := Tryz.prog) _ Tryz.underlying48 Tryz.underlying5 Tryz.underlying9 rfl (by rw [hb]; exact reads_newV w _ t _ rfl rfl rfl (Nat.lt_succ_self _))
  have hc0 := HC.out 5
  have m1 : (a1 : Int) % 256 = (a1 : Int) := by omega
  have m2 : (a2 : Int) % 256 = (a2 : Int) := by omega
  have m3 : (a3 : Int) % 256 = (a3 : Int) := by omega
  have m4 : (a4 : Int) % 256 = (a4 : Int) := by omega
  have m5 : (a5 : Int) % 256 = (a5 : Int) := by omega
  clear h1 h2 h3 h4 h5 l1 l2 l3 l4 l5 HC
  go_enter Tryz.func227, Tryz.ntmps227
  go_wp2
  go_ret
  exact ⟨ret_string HN.out.symm, (Below.refl _ _).alloc (Nat.le_refl _) _⟩
/-- The marks of list i from a place on. -/
def marks (i fr n : Nat) : List ByteArray := (List.range n).map fun j => nm i (fr + j)
theorem marks_len (i fr n : Nat) : (marks i fr n).length = n := by simp [marks]
theorem marks_succ (i fr n : Nat) : marks i fr (n + 1) = marks i fr n ++ [nm i (fr + n)] := by simp [marks, List.range_succ]
theorem marks_add (i n m : Nat) : marks i 0 (n + m) = marks i 0 n ++ marks i n m := by
  induction m with
  | zero => simp [marks]
  | succ m ih => rw [← Nat.add_assoc, marks_succ, ih, marks_succ, Nat.zero_add, List.append_assoc]
theorem strs_append (a b : List ByteArray) : strs (a ++ b) = strs a ++ strs b := by simp [strs]
theorem marks_take {i n k : Nat} (h : k ≤ n) : (marks i 0 n).take k = marks i 0 k := by
  obtain ⟨m, rfl⟩ := Nat.le.dest h
  rw [marks_add, List.take_append_of_le_length (by rw [marks_len]; exact Nat.le_refl _), List.take_of_length_le (by rw [marks_len]; exact Nat.le_refl _)]
theorem own_below {w w' : World} {base : Nat} {e : TypeId} {size : Nat} {v : Value} {n : Nat} {xs : List Value} (h : w.ownsRow base e size v n xs) {B : Nat} (hb : Below B w w') (hB : ∀ k, v.ownBlock = some k → k < B) : w'.ownsRow base e size v n xs := by
  refine ⟨h.1, ?_⟩
  rcases h.2 with hn | ⟨g, cap, cur, rfl, hbg, hg, rest⟩
  · exact .inl hn
  · exact .inr ⟨g, cap, cur, rfl, hbg, (hb.block g (hB g (by simp [Value.ownBlock]))).trans hg, rest⟩
set_option maxHeartbeats 1000000 in
set_option maxRecDepth 100000 in
theorem markTexts_any (i fr n : Nat) (hi : i ≤ 1000000000) (hf : fr ≤ 100000000000) (hn : n ≤ 100000000000) (w : World) :
    Calls Tryz.prog 191 #[.int .i64 i, .int .i64 fr, .int .i64 n] w fun e w' => ∃ v, e = .returned v ∧ w'.ownsRow w.heap.size 9 1 v n (strs (marks i fr n)) ∧ Below w.heap.size w w' := by
  obtain ⟨i0, hinf, hz0, hz1, hz2⟩ := info_parts bk_info_str
  obtain ⟨N, hN⟩ : ∃ N : Nat, N = fr + n := ⟨_, rfl⟩
  have eN : (fr : Int) + (n : Int) = (N : Int) := by omega
  have HNN := Lib.hid hN
  clear hN
  go_enter Tryz.func191, Tryz.ntmps191
  go_wp2
  go_loopw [7, 8] (fun l k wr => ∃ (j m : Nat), Hid (m = fr + j) ∧ m ≤ N ∧ k = .int .i64 m ∧ wr.ownsRow w.heap.size 9 1 l j (strs (marks i fr j)) ∧ Below w.heap.size w wr) (fun _ k _ => N - (intOf k).toNat)
  case atStart => exact ⟨0, fr, rfl, by have := HNN.out; omega, rfl, World.ownsRow_nil _ _ _ _, Below.refl _ _⟩
  case round =>
    obtain ⟨j, m, HM, hm, rfl, hown, hb⟩ := hrel
    by_cases hlt : m < N
    · have hsz := hb.size
      have hjn : j < n := by have := HM.out; have := HNN.out; omega
      have hm12 : m ≤ 1000000000000 := by have := HNN.out; omega
      go_wp2_with fail
      refine (name_any i m hi hm12 wr).mono ?_
      rintro e w2 ⟨rfl, hb2⟩
      have hown2 := own_below hown hb2 (fun k hk => (hown.lt k hk).2)
      have hb3 := hb.trans (hb2.mono hsz)
      have hsz3 := hb3.size
      clear hown hb hb2
      go_wp2_with (at_builtin; refine wpList_append_any _ rfl _ _ 22 rfl w.heap.size 9 i0 (.string ⟨#[]⟩) 1 16 Tryz.underlying22 hinf hz0 hz1 hz2 rfl (by decide) _ _ _ rfl (hown2.alloc _) (w2.heap.size + 1) (some ⟨w2.heap.size, 0, none⟩) 1 1 [.string (nm i m)] rfl ?d1 ?d2 ?d3 ?d4 ?d5 ?_)
      case d1 => exact reads_newV w2 _ _ _ rfl rfl rfl (Nat.lt_succ_self _)
      case d2 => simp [Value.oneCell']
      case d3 => unfold maxLen; omega
      case d4 => omega
      case d5 => simp; omega
      intro v4 w4 hown4 hgrow4 hlink4
      have hb4 : Below w.heap.size w w4 := by
        refine ((hb3.alloc hsz3 _)).trans ⟨hgrow4.os, hgrow4.tape, hgrow4.output, hgrow4.size, fun k hk => hgrow4.block k (by simp; omega) (fun e => ?_)⟩
        have := (hown2.lt k e.symm).1
        omega
      have HB4 := Lib.hid hb4
      have HO4 : Hid (w4.ownsRow w.heap.size 9 1 v4 (j + 1) (strs (marks i fr (j + 1)))) := by
        show World.ownsRow _ _ _ _ _ _ _
        rw [marks_succ, strs_append, ← HM.out]
        exact hown4
      clear hgrow4 hlink4 hb4 hb3 hown2 hown4
      go_wp2
      go_roundw
      case rel => exact ⟨j + 1, m + 1, by show _ = _; have := HM.out; omega, hlt, by go_num, HO4.out, HB4.out⟩
      case measure => simp [intOf]; omega
    · have hj : j = n := by have := HM.out; have := HNN.out; omega
      subst hj
      go_wp2
      go_ret
      exact ⟨_, rfl, hown, hb⟩
set_option maxHeartbeats 1000000 in
set_option maxRecDepth 100000 in
theorem copyTexts_any (ss : List ByteArray) (A : Option Addr) (n c : Nat) (B : Nat) (hss : ss.length = n) (hn : n ≤ 1000000000) (w : World) (hr : Reads w B 1 A n (strs ss)) :
    Calls Tryz.prog 75 #[.slice A n c] w fun e w' => ∃ v, e = .returned v ∧ w'.ownsRow w.heap.size 9 1 v n (strs ss) ∧ Below w.heap.size w w' := by
  obtain ⟨i0, hinf, hz0, hz1, hz2⟩ := info_parts bk_info_str
  go_enter Tryz.func75, Tryz.ntmps75
  go_wp2_with (at_builtin; refine wpList_append_any _ rfl _ _ 22 rfl w.heap.size 9 i0 (.string ⟨#[]⟩) 1 16 Tryz.underlying22 hinf hz0 hz1 hz2 rfl (by decide) _ _ _ rfl (World.ownsRow_nil w w.heap.size _ 1) B A n c (strs ss) rfl ?d1 ?d2 ?d3 ?d4 ?d5 ?_)
  case d1 => exact hr
  case d2 => simp [strs, Value.oneCell']
  case d3 => unfold maxLen; omega
  case d4 => omega
  case d5 => exact Nat.le_refl _
  intro v4 w4 hown4 hgrow4 hlink4
  have hb4 : Below w.heap.size w w4 := ⟨hgrow4.os, hgrow4.tape, hgrow4.output, hgrow4.size, fun k hk => hgrow4.block k hk (by simp [Value.ownBlock])⟩
  clear hgrow4 hlink4
  go_wp2
  go_ret
  exact ⟨_, rfl, hown4, hb4⟩
end Go.Proofs.YtfmbadinfhpihaaGreat.Bk
namespace Go.Proofs.YtfmbadinfhpihaaGreat.Bk
open Go.RowKit
attribute [local go_sem ↓] Go.wp_at_zero Go.wp_at_succ

theorem bk_info_list : (Tryz.prog.info? 22).map (fun i => (i.zero, i.size, i.bytes)) = some (some (.slice none 0 0), 1, 24) := by kernel_rfl
/-- One list that is kept: its value, what it holds; its copy, what that holds. -/
structure TRow where
  v : Value
  ss : List ByteArray
  m : Value
  mm : List ByteArray
def TRow.blocks (r : TRow) : List Nat := r.v.ownBlock.toList ++ r.m.ownBlock.toList
/-- The lists' blocks are apart from each other. -/
def rowBlocks (L : List TRow) : List Nat := L.flatMap TRow.blocks
/-- A kept list in memory. -/
structure TRow.At (r : TRow) (w : World) : Prop where
  v : w.ownsRow 0 9 1 r.v r.ss.length (strs r.ss)
  m : w.ownsRow 0 9 1 r.m r.mm.length (strs r.mm)
  lv : r.ss.length ≤ 1000000000
  lm : r.mm.length ≤ 1000000000
/-- The cells of a book that holds texts alone. -/
def bkCells (tv wv : Value) : Array Value := #[tv, wv, .slice none 0 0, .slice none 0 0, .slice none 0 0, .slice none 0 0, .slice none 0 0, .slice none 0 0, .slice none 0 0, .slice none 0 0, .slice none 0 0, .slice none 0 0, .slice none 0 0, .slice none 0 0, .slice none 0 0, .slice none 0 0, .slice none 0 0, .slice none 0 0, .slice none 0 0, .slice none 0 0, .slice none 0 0, .slice none 0 0, .slice none 0 0, .slice none 0 0, .slice none 0 0, .slice none 0 0, .slice none 0 0, .slice none 0 0, .slice none 0 0, .slice none 0 0, .slice none 0 0, .slice none 0 0, .slice none 0 0, .slice none 0 0]
/-- The blocks are apart: the book's, the two rows', the lists'. -/
structure Sep (g : Nat) (T W : Option Nat) (R : List Nat) : Prop where
  gT : T ≠ some g
  gW : W ≠ some g
  gR : g ∉ R
  TW : ∀ k, T = some k → W ≠ some k
  TR : ∀ k, T = some k → k ∉ R
  WR : ∀ k, W = some k → k ∉ R
  nd : R.Nodup
/-- The book in block g: the rows tv, wv of its lists and their copies. -/
structure BkAt (g : Nat) (tv wv : Value) (L : List TRow) (w : World) : Prop where
  cells : w.heap[g]? = some (.cells (bkCells tv wv) 86 (0, 0))
  ot : w.ownsRow 0 22 1 tv L.length (L.map TRow.v)
  ow : w.ownsRow 0 22 1 wv L.length (L.map TRow.m)
  rows : ∀ r ∈ L, r.At w
  len : L.length ≤ 250
  sep : Sep g tv.ownBlock wv.ownBlock (rowBlocks L)
def bkBlocks (g : Nat) (tv wv : Value) (L : List TRow) : List Nat := g :: tv.ownBlock.toList ++ wv.ownBlock.toList ++ rowBlocks L
section
variable {g : Nat} {tv wv : Value} {L : List TRow} {w w' : World}
theorem own_keep' {base : Nat} {e : TypeId} {size : Nat} {v : Value} {n : Nat} {xs : List Value} (h : w.ownsRow base e size v n xs) (hb : ∀ k, v.ownBlock = some k → w'.heap[k]? = w.heap[k]?) : w'.ownsRow base e size v n xs := by
  refine ⟨h.1, ?_⟩
  rcases h.2 with hn | ⟨g, cap, cur, rfl, hbg, hg, rest⟩
  · exact .inl hn
  · exact .inr ⟨g, cap, cur, rfl, hbg, (hb g (by simp [Value.ownBlock])).trans hg, rest⟩
theorem mem_rowBlocks {r : TRow} {k : Nat} (hr : r ∈ L) (hk : r.v.ownBlock = some k ∨ r.m.ownBlock = some k) : k ∈ rowBlocks L := by
  refine List.mem_flatMap.2 ⟨r, hr, ?_⟩
  unfold TRow.blocks
  rcases hk with h | h <;> simp [h]
theorem BkAt.keep (h : BkAt g tv wv L w) (hb : ∀ k ∈ bkBlocks g tv wv L, w'.heap[k]? = w.heap[k]?) : BkAt g tv wv L w' := by
  have hb1 : ∀ k, tv.ownBlock = some k → w'.heap[k]? = w.heap[k]? := fun k hk => hb k (by unfold bkBlocks; simp [hk])
  have hb2 : ∀ k, wv.ownBlock = some k → w'.heap[k]? = w.heap[k]? := fun k hk => hb k (by unfold bkBlocks; simp [hk])
  have hb3 : ∀ k ∈ rowBlocks L, w'.heap[k]? = w.heap[k]? := fun k hk => hb k (by unfold bkBlocks; simp [hk])
  exact ⟨(hb g (by unfold bkBlocks; simp)).trans h.cells, own_keep' h.ot hb1, own_keep' h.ow hb2,
    fun r hr => ⟨own_keep' (h.rows r hr).v (fun k hk => hb3 k (mem_rowBlocks hr (.inl hk))), own_keep' (h.rows r hr).m (fun k hk => hb3 k (mem_rowBlocks hr (.inr hk))), (h.rows r hr).lv, (h.rows r hr).lm⟩, h.len, h.sep⟩
theorem BkAt.there (h : BkAt g tv wv L w) : ∀ k ∈ bkBlocks g tv wv L, k < w.heap.size := by
  intro k hk
  unfold bkBlocks at hk
  simp only [List.cons_append, List.mem_cons, List.mem_append, Option.mem_toList] at hk
  rcases hk with rfl | (hk | hk) | hk
  · exact Blk.lt (t := 86) h.cells
  · exact (h.ot.lt k hk).2
  · exact (h.ow.lt k hk).2
  · obtain ⟨r, hr, hk⟩ := List.mem_flatMap.1 hk
    unfold TRow.blocks at hk
    simp only [List.mem_append, Option.mem_toList] at hk
    rcases hk with hk | hk
    · exact ((h.rows r hr).v.lt k hk).2
    · exact ((h.rows r hr).m.lt k hk).2
theorem BkAt.below (h : BkAt g tv wv L w) (hb : Below w.heap.size w w') : BkAt g tv wv L w' := h.keep fun k hk => hb.block k (h.there k hk)
theorem BkAt.drewN (h : BkAt g tv wv L w) (n : Nat) : BkAt g tv wv L (w.drewN n) := h.keep fun _ _ => rfl
theorem BkAt.aside {T T' : List Nat} (h : BkAt g tv wv L w) (hm : Mv T T' w w') (ha : ∀ k ∈ bkBlocks g tv wv L, k ∉ T) : BkAt g tv wv L w' := h.keep fun k hk => hm.block k (h.there k hk) (ha k hk)
theorem BkAt.cell (h : BkAt g tv wv L w) {j : Nat} {u : Value} (hu : (bkCells tv wv)[j]? = some u) : w.cell? ⟨g, j, none⟩ = some u := by
  rw [Lib.cell_of_heap h.cells]
  exact hu
theorem BkAt.frozen (h : BkAt g tv wv L w) (i : Nat) : w.frozen? ⟨g, i, none⟩ = false := Lib.frozen_of_heap h.cells i
end
theorem size_alloc_one (w : World) (o : Obj) : (w.alloc o).heap.size = w.heap.size + 1 := by simp
/-- An empty book. -/
theorem bk_new (w : World) : BkAt w.heap.size (.slice none 0 0) (.slice none 0 0) [] (w.alloc (.cells (bkCells (.slice none 0 0) (.slice none 0 0)) 86)) :=
  ⟨heap_alloc_new _ _, World.ownsRow_nil _ _ _ _, World.ownsRow_nil _ _ _ _, by simp, by simp, ⟨by simp [Value.ownBlock], by simp [Value.ownBlock], by simp [rowBlocks], by simp [Value.ownBlock], by simp [Value.ownBlock], by simp [Value.ownBlock], by simp [rowBlocks]⟩⟩
/-- Behind a row of its own that has grown: the other rows. -/
theorem own_grown {w w' : World} {base : Nat} {e : TypeId} {size : Nat} {v : Value} {n : Nat} {xs : List Value} {row : Option Nat} (h : w.ownsRow base e size v n xs) (hg : w.grownBy w' row) (hne : ∀ k, v.ownBlock = some k → row ≠ some k) : w'.ownsRow base e size v n xs :=
  own_keep' h fun k hk => hg.block k (h.lt k hk).2 (fun e => hne k hk e.symm)
theorem rowBlocks_snoc (L : List TRow) (r : TRow) : rowBlocks (L ++ [r]) = rowBlocks L ++ r.blocks := by simp [rowBlocks]
theorem own_base0 {w : World} {B : Nat} {e : TypeId} {size : Nat} {v : Value} {n : Nat} {xs : List Value} (h : w.ownsRow B e size v n xs) : w.ownsRow 0 e size v n xs := by
  refine ⟨h.1, ?_⟩
  rcases h.2 with h | ⟨g, cap, cur, h1, _, h3⟩
  · exact .inl h
  · exact .inr ⟨g, cap, cur, h1, Nat.zero_le _, h3⟩
theorem mem_bk {g : Nat} {tv wv : Value} {L : List TRow} {k : Nat} : k ∈ bkBlocks g tv wv L ↔ k = g ∨ tv.ownBlock = some k ∨ wv.ownBlock = some k ∨ k ∈ rowBlocks L := by
  unfold bkBlocks
  simp only [List.cons_append, List.mem_cons, List.mem_append, Option.mem_toList, or_assoc]
/-- What stands behind Texts. -/
theorem bk_added {g : Nat} {tv wv tv' wv' v m : Value} {L : List TRow} {ss : List ByteArray} {w W5 w6 w7 : World} {o : Obj}
    (h : BkAt g tv wv L w) (hv : w.ownsRow 0 9 1 v ss.length (strs ss)) (ha : ∀ k, v.ownBlock = some k → k ∉ bkBlocks g tv wv L) (hs : ss.length ≤ 1000000000) (hL : L.length < 250)
    (hb7 : w7.heap[g]? = some (.cells (bkCells tv' wv) 86 (0, 0))) (o5 : W5.ownsRow 0 22 1 tv' (L.length + 1) (L.map TRow.v ++ [v])) (l4 : ∀ k, tv'.ownBlock = some k → tv.ownBlock = some k ∨ w.heap.size ≤ k) (ne4 : tv'.ownBlock ≠ some g)
    (m5 : Mv (g :: tv.ownBlock.toList) (g :: tv'.ownBlock.toList) w W5) (b6 : Below W5.heap.size W5 w6) (om : w6.ownsRow W5.heap.size 9 1 m ss.length (strs ss)) (g7 : (w6.alloc o).grownBy w7 wv.ownBlock)
    (o7 : w7.ownsRow 0 22 1 wv' (L.length + 1) (L.map TRow.m ++ [m])) (l7 : wv'.ownBlock = wv.ownBlock ∨ wv'.ownBlock = some (w6.alloc o).heap.size) :
    BkAt g tv' wv' (L ++ [⟨v, ss, m, ss⟩]) (w7.setCell ⟨g, 1, none⟩ wv') ∧ Mv (v.ownBlock.toList ++ bkBlocks g tv wv L) (bkBlocks g tv' wv' (L ++ [⟨v, ss, m, ss⟩])) w (w7.setCell ⟨g, 1, none⟩ wv') := by
  have z5 := m5.size
  have z6 := b6.size
  have z7 : w6.heap.size + 1 ≤ w7.heap.size := by have := g7.size; rw [size_alloc_one] at this; exact this
  have hth := h.there
  have hg : g < w.heap.size := hth g (mem_bk.2 (.inl rfl))
  have tlt : ∀ k, tv.ownBlock = some k → k < w.heap.size := fun k hk => hth k (mem_bk.2 (.inr (.inl hk)))
  have wlt : ∀ k, wv.ownBlock = some k → k < w.heap.size := fun k hk => hth k (mem_bk.2 (.inr (.inr (.inl hk))))
  have rlt : ∀ k, k ∈ rowBlocks L → k < w.heap.size := fun k hk => hth k (mem_bk.2 (.inr (.inr (.inr hk))))
  have vlt : ∀ k, v.ownBlock = some k → k < w.heap.size := fun k hk => (hv.lt k hk).2
  have va : ∀ k, v.ownBlock = some k → k ≠ g ∧ tv.ownBlock ≠ some k ∧ wv.ownBlock ≠ some k ∧ k ∉ rowBlocks L := fun k hk => by
    have := ha k hk
    rw [mem_bk] at this
    simp only [not_or] at this
    exact this
  have mlt : ∀ k, m.ownBlock = some k → W5.heap.size ≤ k ∧ k < w6.heap.size := fun k hk => om.lt k hk
  have t5 : ∀ k, tv'.ownBlock = some k → k < W5.heap.size := fun k hk => (o5.lt k hk).2
  have l7' : ∀ k, wv'.ownBlock = some k → wv.ownBlock = some k ∨ w6.heap.size ≤ k := fun k hk => by
    rcases l7 with e | e
    · exact .inl (by rw [← e]; exact hk)
    · rw [e, size_alloc_one] at hk; injection hk with hk; exact .inr (by omega)
  have keep57 : ∀ k, k < w6.heap.size → wv.ownBlock ≠ some k → w7.heap[k]? = w6.heap[k]? := fun k hk hn => (g7.block k (by rw [size_alloc_one]; omega) (fun e => hn e.symm)).trans (Below.heap_alloc w6 o k hk)
  have k5 : ∀ k, k < W5.heap.size → wv.ownBlock ≠ some k → w7.heap[k]? = W5.heap[k]? := fun k hk hn => (keep57 k (by omega) hn).trans (b6.block k hk)
  have kw : ∀ k, k < w.heap.size → k ≠ g → tv.ownBlock ≠ some k → wv.ownBlock ≠ some k → w7.heap[k]? = w.heap[k]? := fun k hk h1 h2 h3 => (k5 k (by omega) h3).trans (m5.block k hk (by simp only [List.mem_cons, Option.mem_toList, not_or]; exact ⟨h1, h2⟩))
  have fin : ∀ k, k ≠ g → (w7.setCell ⟨g, 1, none⟩ wv').heap[k]? = w7.heap[k]? := fun k hk => Below.heap_setCell _ _ _ _ hk
  have hrow : ∀ k, k ∈ rowBlocks L → k ≠ g ∧ tv.ownBlock ≠ some k ∧ wv.ownBlock ≠ some k := fun k hk => ⟨fun e => h.sep.gR (e ▸ hk), fun e => h.sep.TR k e hk, fun e => h.sep.WR k e hk⟩
  have wg : wv'.ownBlock ≠ some g := fun e => by
    rcases l7' g e with h' | h'
    · exact h.sep.gW h'
    · omega
  have hnew : ∀ k, k ∈ (⟨v, ss, m, ss⟩ : TRow).blocks → v.ownBlock = some k ∨ m.ownBlock = some k := fun k hk => by
    unfold TRow.blocks at hk
    simpa only [List.mem_append, Option.mem_toList] using hk
  refine ⟨⟨Blk.set_ (show Blk w7 g 86 _ from hb7) 1 wv', ?_, ?_, ?_, by simp; omega, ⟨ne4, wg, ?_, ?_, ?_, ?_, ?_⟩⟩, ?_⟩
  · rw [List.length_append, List.map_append]
    refine own_keep' o5 (fun k hk => (fin k (fun e => ne4 (by rw [← e]; exact hk))).trans (k5 k (t5 k hk) (fun e => ?_)))
    rcases l4 k hk with h' | h'
    · exact h.sep.TW k h' e
    · have := wlt k e; omega
  · rw [List.length_append, List.map_append]
    exact own_keep' o7 (fun k hk => fin k (fun e => wg (by rw [← e]; exact hk)))
  · intro r hr
    rcases List.mem_append.1 hr with hr | hr
    · have h0 := h.rows r hr
      refine ⟨own_keep' h0.v (fun k hk => ?_), own_keep' h0.m (fun k hk => ?_), h0.lv, h0.lm⟩
      · have hm := mem_rowBlocks hr (.inl hk)
        obtain ⟨a, b, c⟩ := hrow k hm
        exact (fin k a).trans (kw k (rlt k hm) a b c)
      · have hm := mem_rowBlocks hr (.inr hk)
        obtain ⟨a, b, c⟩ := hrow k hm
        exact (fin k a).trans (kw k (rlt k hm) a b c)
    · obtain rfl : r = ⟨v, ss, m, ss⟩ := by simpa using hr
      refine ⟨own_keep' hv (fun k hk => ?_), own_keep' (own_base0 om) (fun k hk => ?_), hs, hs⟩
      · obtain ⟨a, b, c, _⟩ := va k hk
        exact (fin k a).trans (kw k (vlt k hk) a b c)
      · have := mlt k hk
        exact (fin k (by omega)).trans (keep57 k this.2 (fun e => by have := wlt k e; omega))
  · rw [rowBlocks_snoc, List.mem_append, not_or]
    refine ⟨h.sep.gR, fun e => ?_⟩
    rcases hnew g e with h' | h'
    · exact (va g h').1 rfl
    · have := mlt g h'; omega
  · intro k hk e
    rcases l4 k hk with h' | h' <;> rcases l7' k e with h'' | h''
    · exact h.sep.TW k h' h''
    · have := tlt k h'; omega
    · have := wlt k h''; omega
    · have := t5 k hk; omega
  · intro k hk e
    rw [rowBlocks_snoc, List.mem_append] at e
    rcases e with e | e
    · rcases l4 k hk with h' | h'
      · exact h.sep.TR k h' e
      · have := rlt k e; omega
    · rcases hnew k e with e | e
      · rcases l4 k hk with h' | h'
        · exact (va k e).2.1 h'
        · have := vlt k e; omega
      · have := mlt k e; have := t5 k hk; omega
  · intro k hk e
    rw [rowBlocks_snoc, List.mem_append] at e
    rcases e with e | e
    · rcases l7' k hk with h' | h'
      · exact h.sep.WR k h' e
      · have := rlt k e; omega
    · rcases hnew k e with e | e
      · rcases l7' k hk with h' | h'
        · exact (va k e).2.2.1 h'
        · have := vlt k e; omega
      · rcases l7' k hk with h' | h'
        · have := wlt k h'; have := mlt k e; omega
        · have := mlt k e; omega
  · rw [rowBlocks_snoc, List.nodup_append]
    refine ⟨h.sep.nd, ?_, fun a ha' b hb' e => ?_⟩
    · unfold TRow.blocks
      simp only
      cases hv' : v.ownBlock with
      | none => cases hm' : m.ownBlock <;> simp
      | some a =>
        cases hm' : m.ownBlock with
        | none => simp
        | some b =>
          have h1 := vlt a hv'
          have h2 := mlt b hm'
          simp; omega
    · subst e
      rcases hnew a hb' with h' | h'
      · exact (va a h').2.2.2 ha'
      · have := mlt a h'; have := rlt a ha'; omega
  · refine ⟨?_, ?_, ?_, ?_, fun k hk hn => ?_, fun k hk => ?_⟩
    · exact (show (w7.setCell ⟨g, 1, none⟩ wv').os = w7.os from rfl).trans (g7.os.trans (b6.os.trans m5.os))
    · exact (show (w7.setCell ⟨g, 1, none⟩ wv').tape = w7.tape from rfl).trans (g7.tape.trans (b6.tape.trans m5.tape))
    · exact (show (w7.setCell ⟨g, 1, none⟩ wv').output = w7.output from rfl).trans (g7.output.trans (b6.output.trans m5.output))
    · have : (w7.setCell ⟨g, 1, none⟩ wv').heap.size = w7.heap.size := by simp [World.setCell]
      omega
    · rw [List.mem_append, mem_bk] at hn
      simp only [not_or] at hn
      exact (fin k hn.2.1).trans (kw k hk hn.2.1 hn.2.2.1 hn.2.2.2.1)
    · rw [mem_bk] at hk
      rw [List.mem_append, mem_bk]
      rcases hk with hk | hk | hk | hk
      · exact .inl (.inr (.inl hk))
      · rcases l4 k hk with h' | h'
        · exact .inl (.inr (.inr (.inl h')))
        · exact .inr h'
      · rcases l7' k hk with h' | h'
        · exact .inl (.inr (.inr (.inr (.inl h'))))
        · exact .inr (by omega)
      · rw [rowBlocks_snoc, List.mem_append] at hk
        rcases hk with hk | hk
        · exact .inl (.inr (.inr (.inr (.inr hk))))
        · rcases hnew k hk with h' | h'
          · exact .inl (.inl (by simp [h']))
          · exact .inr (by have := mlt k h'; omega)
set_option maxHeartbeats 4000000 in
set_option maxRecDepth 100000 in
theorem texts_add (g : Nat) (tv wv : Value) (L : List TRow) (w : World) (h : BkAt g tv wv L w) (hL : L.length < 250) (v : Value) (ss : List ByteArray) (hv : w.ownsRow 0 9 1 v ss.length (strs ss)) (hs : ss.length ≤ 1000000000) (ha : ∀ k, v.ownBlock = some k → k ∉ bkBlocks g tv wv L) :
    Calls Tryz.prog 37 #[.pointer (some ⟨g, 0, none⟩), v] w fun e w' => e = .returned (.tuple #[]) ∧ ∃ tv' wv' m, BkAt g tv' wv' (L ++ [⟨v, ss, m, ss⟩]) w' ∧ Mv (v.ownBlock.toList ++ bkBlocks g tv wv L) (bkBlocks g tv' wv' (L ++ [⟨v, ss, m, ss⟩])) w w' := by
  obtain ⟨i0, hinf, hz0, hz1, hz2⟩ := info_parts bk_info_list
  obtain ⟨A1, c1, rfl, hc1⟩ := own_form h.ot
  obtain ⟨A2, c2, rfl, hc2⟩ := own_form h.ow
  obtain ⟨A3, c3, rfl, hc3⟩ := own_form hv
  obtain ⟨n, hn⟩ : ∃ n, L.length = n := ⟨_, rfl⟩
  obtain ⟨l, hl⟩ : ∃ l, ss.length = l := ⟨_, rfl⟩
  have f0 := h.frozen 0
  have e0 : w.cell? ⟨g, 0, none⟩ = some (.slice A1 n c1) := by rw [← hn]; exact h.cell rfl
  have e1 : w.cell? ⟨g, 1, none⟩ = some (.slice A2 n c2) := by rw [← hn]; exact h.cell rfl
  have htv := h.ot
  rw [hn] at htv hL
  have H := Lib.hid h
  have HV := Lib.hid hv
  have HA := Lib.hid ha
  have HN := Lib.hid hn
  have HLS := Lib.hid hl
  rw [hl] at hs hc3 ⊢
  clear h hv ha hn hl
  go_enter Tryz.func37, Tryz.ntmps37
  go_wp2_with (at_builtin; refine wpList_append_any _ rfl _ _ 35 rfl 0 22 i0 (.slice none 0 0) 1 24 Tryz.underlying35 hinf hz0 hz1 hz2 rfl (by decide) _ _ _ rfl (htv.alloc _) (w.heap.size + 1) (some ⟨w.heap.size, 0, none⟩) 1 1 [.slice A3 l c3] rfl ?d1 ?d2 ?d3 ?d4 ?d5 ?_)
  case d1 => exact reads_newV w _ _ _ rfl rfl rfl (Nat.lt_succ_self _)
  case d2 => simp [Value.oneCell']
  case d3 => unfold maxLen; omega
  case d4 => omega
  case d5 => simp
  intro v4 w4 hown4 hgrow4 hlink4
  have hsep := H.out.sep
  have hgl : g < w.heap.size := Blk.lt (t := 86) H.out.cells
  have hold : ∀ k, k < w.heap.size → (Value.slice A1 n c1).ownBlock ≠ some k → w4.heap[k]? = w.heap[k]? := fun k hk hn => (hgrow4.block k (by simp; omega) (fun e => hn e.symm)).trans (Below.heap_alloc w _ k hk)
  have hg4 : w4.heap[g]? = some (.cells (bkCells (.slice A1 n c1) (.slice A2 n c2)) 86 (0, 0)) := by
    rw [hold g hgl (fun e => hsep.gT (by rw [HN.out]; exact e)), H.out.cells, HN.out]
  have d0 : w4.cell? ⟨g, 0, none⟩ = some (.slice A1 n c1) := by rw [Lib.cell_of_heap hg4]; rfl
  have f4 : w4.frozen? ⟨g, 0, none⟩ = false := Lib.frozen_of_heap hg4 0
  obtain ⟨A4, c4, rfl, hc4⟩ := own_form hown4
  have hk5 : (w4.setCell ⟨g, 0, none⟩ (.slice A4 (n + 1) c4)).heap[g]? = some (.cells (bkCells (.slice A4 (n + 1) c4) (.slice A2 n c2)) 86 (0, 0)) := Blk.set_ (show Blk w4 g 86 _ from hg4) 0 _
  have hset : ∀ k, k ≠ g → (w4.setCell ⟨g, 0, none⟩ (.slice A4 (n + 1) c4)).heap[k]? = w4.heap[k]? := fun k hk => Below.heap_setCell _ _ _ _ hk
  have hlt4 : ∀ k, (Value.slice A4 (n + 1) c4).ownBlock = some k → (Value.slice A1 n c1).ownBlock = some k ∨ k = w.heap.size + 1 := by
    intro k hk
    rcases hlink4 with h | h
    · left; rw [← h]; exact hk
    · right; rw [h] at hk; injection hk with hk; have hq := size_alloc_one w (Obj.cells #[.slice A3 l c3] 22); omega
  have hne4 : (Value.slice A4 (n + 1) c4).ownBlock ≠ some g := by
    intro e
    rcases hlt4 g e with h | h
    · exact hsep.gT (by rw [HN.out]; exact h)
    · omega
  have hz4 : w.heap.size + 1 ≤ w4.heap.size := by have := hgrow4.size; simpa using this
  have hzs : (w4.setCell ⟨g, 0, none⟩ (.slice A4 (n + 1) c4)).heap.size = w4.heap.size := by simp [World.setCell]
  have hown5 : (w4.setCell ⟨g, 0, none⟩ (.slice A4 (n + 1) c4)).ownsRow 0 22 1 (.slice A4 (n + 1) c4) (n + 1) (L.map TRow.v ++ [.slice A3 l c3]) := own_keep' hown4 (fun k hk => hset k (fun e => hne4 (by rw [← e]; exact hk)))
  have hm5 : Mv (g :: (Value.slice A1 n c1).ownBlock.toList) (g :: (Value.slice A4 (n + 1) c4).ownBlock.toList) w (w4.setCell ⟨g, 0, none⟩ (.slice A4 (n + 1) c4)) := by
    refine Mv.set_ (Mv.grown ((Mv.refl (g :: (Value.slice A1 n c1).ownBlock.toList) w).alloc _) hgrow4 (fun k hk => by simp [hk]) (fun k hk => ?_)) (by simp) 0 _
    simp only [List.mem_cons, Option.mem_toList] at hk ⊢
    rcases hk with rfl | hk
    · exact .inl (.inl rfl)
    · rcases hlink4 with h | h
      · rw [h] at hk; exact .inl (.inr hk)
      · rw [h] at hk; injection hk with hk; right; have hq := size_alloc_one w (Obj.cells #[.slice A3 l c3] 22); omega
  have hkeep : ∀ k, k < w.heap.size → k ≠ g → (Value.slice A1 n c1).ownBlock ≠ some k → (w4.setCell ⟨g, 0, none⟩ (.slice A4 (n + 1) c4)).heap[k]? = w.heap[k]? := fun k hk h1 h2 => (hset k h1).trans (hold k hk h2)
  clear hgrow4 hlink4 hown4 hg4 hset htv e0 e1 f0 hold
  obtain ⟨W5, hW5⟩ : ∃ W5, w4.setCell ⟨g, 0, none⟩ (.slice A4 (n + 1) c4) = W5 := ⟨_, rfl⟩
  have HW5 := Lib.hid hW5
  rw [hW5] at hk5 hown5 hm5 hkeep hzs
  clear hW5
  have hw5 : W5.ownsRow 0 22 1 (.slice A2 n c2) n (L.map TRow.m) := by
    have h := H.out.ow
    rw [HN.out] at h
    exact own_keep' h (fun k hk => hkeep k (h.lt k hk).2 (fun e => hsep.gW (by rw [HN.out, ← e]; exact hk)) (fun e => hsep.TW k (by rw [HN.out]; exact e) (by rw [HN.out]; exact hk)))
  have hv5 : W5.ownsRow 0 9 1 (.slice A3 l c3) l (strs ss) := by
    have h := HV.out
    rw [HLS.out] at h
    exact own_keep' h (fun k hk => by
      have hq := HA.out k (by rw [HLS.out]; exact hk)
      unfold bkBlocks at hq
      simp only [List.cons_append, List.mem_cons, List.mem_append, Option.mem_toList, not_or] at hq
      exact hkeep k (h.lt k hk).2 hq.1 (fun e => hq.2.1.1 (by rw [HN.out]; exact e)))
  have hrd5 := Reads.of_own hv5
  have hg5 : g < W5.heap.size := Blk.lt (t := 86) hk5
  have e51 : W5.cell? ⟨g, 1, none⟩ = some (.slice A2 n c2) := by rw [Lib.cell_of_heap hk5]; rfl
  have HK5 := Lib.hid hk5
  have HO5 := Lib.hid hown5
  have HM5 := Lib.hid hm5
  have HKE := Lib.hid hkeep
  have HSEP := Lib.hid hsep
  have HL4 := Lib.hid hlt4
  have HNE4 := Lib.hid hne4
  have HV5 := Lib.hid hv5
  have hzW : w.heap.size + 1 ≤ W5.heap.size := by rw [hzs]; exact hz4
  have HGW := Lib.hid hgl
  have hA2 : A2 ≠ some ⟨g, 0, none⟩ := fun e => hsep.gW (by rw [e]; rfl)
  have hg2 : (Value.slice A2 n c2).ownBlock ≠ some g := fun e => hsep.gW (by rw [HN.out]; exact e)
  have HG2 := Lib.hid hg2
  clear hk5 hown5 hm5 hkeep hsep hlt4 hne4 hv5 hz4 hzs hA2 hg2 hgl
  go_wp2_with fail
  rw [HW5.out]
  clear d0 f4 HW5
  have CC := copyTexts_any ss A3 l c3 W5.heap.size HLS.out hs W5.drew hrd5.drew
  have HW5' := Lib.hid hw5
  go_region_law ((first
    | (refine step_append_any _ rfl (.tmp 24) (.tmp 27) 35 rfl 0 22 i0 (.slice none 0 0) 1 24 Tryz.underlying35 hinf hz0 hz1 hz2 rfl (by decide) (.slice A2 n c2) n (L.map TRow.m) (by rfl) (hw6.alloc _) (w6.heap.size + 1) (some ⟨w6.heap.size, 0, none⟩) 1 1 [.slice Am l cm] (by rfl) (reads_newV w6 _ _ _ rfl rfl rfl (Nat.lt_succ_self _)) (by simp [Value.oneCell']) (by unfold maxLen; omega) (by omega) (Nat.zero_le _) ?_; intro v7 w7 ho7 hg7 hl7; have hb7 := (hg7.block g (show g < (w6.alloc _).heap.size by rw [size_alloc_one]; omega) (fun e => HG2.out e.symm)).trans ((Below.heap_alloc w6 _ g (show g < w6.heap.size by omega)).trans ((HB6.out.block g hg5).trans HK5.out)); have h71 : w7.cell? ⟨g, 1, none⟩ = some (.slice A2 n c2) := (by rw [Lib.cell_of_heap hb7]; rfl); have f71 : w7.frozen? ⟨g, 1, none⟩ = false := Lib.frozen_of_heap hb7 1; obtain ⟨A7, c7, rfl, hc7⟩ := own_form ho7)
    | (go_simp; (with_reducible refine CC.mono ?_); rintro e w6 ⟨vm, rfl, hom, hb6⟩; have hb6' : Below W5.heap.size W5 w6 := (Below.refl W5.heap.size W5).drew.trans hb6; have hz6 : W5.heap.size ≤ w6.heap.size := hb6'.size; have hw6 := own_below HW5'.out hb6' (fun k hk => (HW5'.out.lt k hk).2); have h61 : w6.cell? ⟨g, 1, none⟩ = some (.slice A2 n c2) := (hb6'.cell (show g < _ from hg5)).trans e51; obtain ⟨Am, cm, rfl, hcm⟩ := own_form hom; have HB6 := Lib.hid hb6'; have h62 : (w6.alloc (.cells #[.slice Am l cm] 22)).cell? ⟨g, 1, none⟩ = some (.slice A2 n c2) := (World.cell?_alloc_lt _ _ _ (show g < w6.heap.size by omega)).trans h61)))
  all_goals
    have hN := HN.out
    have hLS := HLS.out
    subst hN hLS
    have hfin := bk_added H.out HV.out HA.out hs hL hb7 HO5.out (fun k hk => (HL4.out k hk).imp id (fun e => by omega)) HNE4.out HM5.out HB6.out hom hg7 ho7 hl7
    have HFIN := Lib.hid hfin
    clear hfin hb7 h71 f71 ho7 hg7 hl7 hom hw6 h61 h62 hb6 hb6' CC e51 hrd5 hw5
    go_wp2
    go_end0
    exact ⟨rfl, _, _, _, HFIN.out.1, HFIN.out.2⟩
end Go.Proofs.YtfmbadinfhpihaaGreat.Bk
namespace Go.Proofs.YtfmbadinfhpihaaGreat.Bk
open Go.RowKit
attribute [local go_sem ↓] Go.wp_at_zero Go.wp_at_succ
set_option maxRecDepth 100000

/-- The k-th list of a row of lists. -/
theorem row_at {w : World} {B n k : Nat} {tv : Value} {f : TRow → Value} {L : List TRow} (h : w.ownsRow B 22 1 tv n (L.map f)) (hn : L.length = n) (hk : k < n) : ∃ q c r, tv = .slice (some ⟨q, 0, none⟩) n c ∧ L[k]? = some r ∧ w.cell? ⟨q, k, none⟩ = some (f r) ∧ n ≤ c := by
  obtain ⟨q, cap, rfl, hc, hlt⟩ := h.form (by omega)
  have hcs := h.cells (g := q) rfl
  have hr : L[k]? = some L[k] := List.getElem?_eq_getElem (by omega)
  refine ⟨q, cap, L[k], rfl, hr, ?_, ?_⟩
  · have := hcs k (f L[k]) (by rw [List.getElem?_map, hr]; rfl)
    unfold Addr.add at this
    split at this
    · rename_i h0; subst h0; exact this
    · simpa using this
  · obtain ⟨A, c, e, hle⟩ := own_form h
    injection e with _ _ e
    omega
set_option maxHeartbeats 4000000 in
theorem still_any (g : Nat) (tv wv : Value) (L : List TRow) (w : World) (h : BkAt g tv wv L w) (hc : ∀ r ∈ L, r.mm = r.ss) :
    Calls Tryz.prog 76 #[.pointer (some ⟨g, 0, none⟩)] w fun e w' => e = .returned (.bool true) ∧ ∃ q, w' = w.drewN q := by
  obtain ⟨A1, c1, rfl, hc1⟩ := own_form h.ot
  obtain ⟨A2, c2, rfl, hc2⟩ := own_form h.ow
  obtain ⟨n, hn⟩ : ∃ n, L.length = n := ⟨_, rfl⟩
  have hl := h.len
  rw [hn] at hl hc1 hc2
  have H := Lib.hid h; have HC := Lib.hid hc; have HN := Lib.hid hn
  clear h hc
  rw [hn] at H
  clear hn
  go_enter Tryz.func76, Tryz.ntmps76
  go_wp2
  go_loopw [3] (fun i wr => ∃ k : Nat, k ≤ n ∧ i = .int .i64 k ∧ Hid (∃ q, wr = w.drewN q)) (fun i _ => n - (intOf i).toNat)
  case atStart => exact ⟨0, Nat.zero_le _, rfl, 0, rfl⟩
  case round =>
    obtain ⟨k, hk, rfl, HQ⟩ := hrel
    obtain ⟨q, hq⟩ := HQ.out
    have hb : BkAt g (.slice A1 n c1) (.slice A2 n c2) L wr := by rw [hq]; exact H.out.drewN q
    have HW := Lib.hid hq
    clear hq HQ
    have e0 : wr.cell? ⟨g, 0, none⟩ = some (.slice A1 n c1) := hb.cell rfl
    have e1 : wr.cell? ⟨g, 1, none⟩ = some (.slice A2 n c2) := hb.cell rfl
    have hot := hb.ot
    have how := hb.ow
    rw [HN.out] at hot how
    by_cases hlt : k < n
    · obtain ⟨q1, c1', r, e, hr, d0, _⟩ := row_at hot HN.out hlt
      injection e with ea _ ec
      subst ea ec
      obtain ⟨q2, c2', r', e, hr', d1, _⟩ := row_at how HN.out hlt
      injection e with ea _ ec
      subst ea ec
      obtain rfl : r = r' := by rw [hr] at hr'; injection hr'
      have hrm := List.mem_of_getElem? hr
      have hrow := hb.rows r hrm
      have hcp := HC.out r hrm
      obtain ⟨rv, rss, rm, rmm⟩ := r
      obtain rfl : rmm = rss := hcp
      have hov : wr.ownsRow 0 9 1 rv rmm.length (strs rmm) := hrow.v
      have hom : wr.ownsRow 0 9 1 rm rmm.length (strs rmm) := hrow.m
      have hlv : rmm.length ≤ 1000000000 := hrow.lv
      clear hrow hr hr' hrm hb hot how
      obtain ⟨A3, c3, rfl, _⟩ := own_form hov
      obtain ⟨A4, c4, rfl, _⟩ := own_form hom
      have qs := fun N => same_any rmm rmm A3 A4 c3 c4 wr.heap.size (wr.drewN N) ((Reads.of_own hov).drewN N) ((Reads.of_own hom).drewN N) (by omega) (by omega)
      obtain ⟨m, hm⟩ : ∃ m, rmm.length = m := ⟨_, rfl⟩
      simp only [sameB_self, hm] at qs d0 d1
      have QS := Lib.hid qs
      have b1 : (0 : Int) ≤ (k : Int) := by omega
      have b2 : (k : Int) < (n : Int) := by omega
      clear hov hom hlv hm qs H HC
      go_wp2
      go_quiet ((go_at_call 18; exact Calls.quiet_of (QS.out _)))
      all_goals
        go_wp2
        go_roundw
        case rel => exact ⟨k + 1, hlt, by go_num, by rw [HW.out, World.drewN_drewN]; exact ⟨_, rfl⟩⟩
        case measure => simp [intOf]; omega
    · obtain rfl : k = n := by omega
      go_wp2
      go_ret
      exact ⟨rfl, q, HW.out⟩
end Go.Proofs.YtfmbadinfhpihaaGreat.Bk
