/-
 A book's lists of one kind of elements: what it holds, marked, grown: the plain part.
 Conditions: lists that nobody else holds; elements of a known number of cells.
-/
import Derived.Test.YtnpkplegeddhcaaGreatWords2
import Derived.Deep.QuietTactic
import Derived.BigQuiet
import Derived.Lib.Hide
import Derived.LoopN
import Derived.WalkKit
import Derived.Test.YtnpkplegeddhcaaGreatProg
import Derived.Deep.RegionHeld3
import Derived.Deep.RegionLaw
import Derived.Deep.DrawnRows
namespace Go.Proofs.YtnpkplegeddhcaaGreat
open Go.RowKit

theorem bk_info_str : (Tryz.prog.info? 9).map (fun i => (i.zero, i.size, i.bytes)) = some (some (.string ⟨#[]⟩), 1, 16) := by kernel_rfl
/-- An append: what the row held ahead of it, it holds still. -/
theorem run_append_keep {P : Program} (w : World) (base : Nat) (t ty e : TypeId) (i : TypeInfo) (z : Value) (size bytes : Nat) (ht : P.underlying t = some (.slice e)) (hi : P.info? e = some i) (hz : i.zero = some z)
  (hsize : i.size = size) (hby : i.bytes = bytes) (hzs : z.cells.size = size) (hsz : 0 < size)
  (v : Value) (n : Nat) (xs : List Value) (hown : w.ownsRow base e size v n xs)
  (B : Nat) (A : Option Addr) (m c : Nat) (news : List Value) (hr : Reads w B size A m news) (h1 : ∀ u ∈ news, u.oneCell' = true)
  (h63 : n + m ≤ maxLen) (hbytes : (n + m) * bytes ≤ 140737488355328) (hbase : base ≤ w.heap.size) :
  ∃ v' w', (Builtin.append_ #[t, t] ty #[v, .slice A m c]).run P w = .ok v' w' ∧ w'.ownsRow base e size v' (n + m) (xs ++ news) ∧ w'.ownsRow base e size v n xs ∧ w.grownBy w' v.ownBlock ∧
   (v'.ownBlock = v.ownBlock ∨ v'.ownBlock = some w.heap.size) := by
 obtain ⟨v', w', hrun, h2, h3, h4⟩ := run_append_any (P := P) w base t ty e i z size bytes ht hi hz hsize hby hzs hsz v n xs hown B A m c news hr h1 h63 hbytes hbase
 refine ⟨v', w', hrun, h2, ⟨hown.1, ?_⟩, h3, h4⟩
 rcases hown.2 with hnil | ⟨g, cap, cur, rfl, hbg, hg, hnc, hcm, hcs, htake⟩
 ·exact .inl hnil
 ·refine .inr ?_
  by_cases hroom : n + m ≤ cap
  ·rcases A with _ | ad
   ·have hm : m = 0 := by
     rcases Nat.eq_zero_or_pos m with h0 | h0
     ·exact h0
     ·obtain ⟨ad, h, _⟩ := hr.2 h0
      cases h
    subst hm
    have hr2 := run_append_of_nil (P := P) w base t ty e i size ht hi _ n xs hown c
    rw [hrun] at hr2
    injection hr2 with e1 e2
    subst e1 e2
    exact ⟨g, cap, cur, rfl, hbg, hg, hnc, hcm, hcs, htake⟩
   ·have hcells : ∀ j u, news[j]? = some u → w.cell? (ad.add j) = some u := by
     intro j u hu
     rcases Nat.eq_zero_or_pos m with h0 | h0
     ·subst h0
      have hn : news = [] := List.eq_nil_of_length_eq_zero (by simpa using hr.1)
      subst hn
      simp at hu
     ·obtain ⟨ad', h, _, hc⟩ := hr.2 h0
      injection h with h
      subst h
      exact hc j u hu
    have hfit : n * i.size + news.length ≤ cur.size := by rw [hr.1, hcs, hsize, ← Nat.add_mul]; exact Nat.mul_le_mul_right _ hroom
    have hr2 := run_append_room (P := P) w t ty e i ht hi g n cap cur hg ad m c news (by rw [hr.1, hsize]) hcells h1 hroom hfit
    rw [hrun] at hr2
    injection hr2 with e1 e2
    subst e1 e2
    refine ⟨g, cap, _, rfl, hbg, setRow_heap w g cur _ e _ hg, hnc, hcm, ?_, ?_⟩
    ·simp only [List.size_toArray, List.length_append, List.length_take, List.length_drop, Array.length_toList]
     rw [← hcs]
     omega
    ·rw [hsize]
     have hl : (cur.toList.take (n * size)).length = n * size := by rw [htake]; exact hown.1
     rw [List.append_assoc, List.take_append_of_le_length (by rw [hl]; exact Nat.le_refl _), List.take_of_length_le (by rw [hl]; exact Nat.le_refl _)]
     exact htake
  ·have hgrow : w'.heap[g]? = w.heap[g]? := by
    rcases A with _ | ad
    ·have hm : m = 0 := by
      rcases Nat.eq_zero_or_pos m with h0 | h0
      ·exact h0
      ·obtain ⟨ad, h, _⟩ := hr.2 h0
       cases h
     omega
    ·have hcells : ∀ j u, news[j]? = some u → w.cell? (ad.add j) = some u := by
      intro j u hu
      obtain ⟨ad', h, _, hc⟩ := hr.2 (by omega)
      injection h with h
      subst h
      exact hc j u hu
     have hsmall : n + m ≤ 9223372036854775807 := by simp only [maxLen] at h63; omega
     have hr2 := run_append_grow (P := P) w t ty e i z ht hi hz ⟨g, 0, none⟩ n cap xs (by rw [hsize]; exact hown.1) (hown.cells (g := g) rfl) ad m c news (by rw [hr.1, hsize]) hcells (by omega) (by omega) (by rw [hby]; exact growslice_fits (by omega) hbytes)
     rw [hrun] at hr2
     injection hr2 with e1 e2
     subst e2
     exact Below.heap_alloc w.drew _ g (Array.getElem?_eq_some_iff.1 hg).1
   exact ⟨g, cap, cur, rfl, hbg, hgrow.trans hg, hnc, hcm, hcs, htake⟩
/-- The operation. -/
theorem wpList_append_keep {P : Program} {w : World} {ops : Array Oper} {rest : List Oper} {o : Oper} {a : Act} {Q : Exit → Act → World → Prop} (hgd : o.guard = none) (s x : Operand) (t : TypeId)
  (ho : o.op = .call { callee := .builtin .append, args := #[s, x], argTypes := #[t, t] })
  (base : Nat) (e : TypeId) (i : TypeInfo) (z : Value) (size bytes : Nat) (ht : P.underlying t = some (.slice e)) (hi : P.info? e = some i) (hz : i.zero = some z)
  (hsize : i.size = size) (hby : i.bytes = bytes) (hzs : z.cells.size = size) (hsz : 0 < size)
  (v : Value) (n : Nat) (xs : List Value) (hs : a.eval s = v) (hown : w.ownsRow base e size v n xs)
  (B : Nat) (A : Option Addr) (m c : Nat) (news : List Value) (hx : a.eval x = .slice A m c) (hr : Reads w B size A m news) (h1 : ∀ u ∈ news, u.oneCell' = true)
  (h63 : n + m ≤ maxLen) (hbytes : (n + m) * bytes ≤ 140737488355328) (hbase : base ≤ w.heap.size)
  (h : ∀ v' w', w'.ownsRow base e size v' (n + m) (xs ++ news) → w'.ownsRow base e size v n xs → w.grownBy w' v.ownBlock → (v'.ownBlock = v.ownBlock ∨ v'.ownBlock = some w.heap.size) → wpList P ops Q rest (a.put o.dst v') w') : wpList P ops Q (o :: rest) a w := by
 refine wpList_plain hgd fun _ hK => ?_
 obtain ⟨v', w', hrun, h2, h3, h4, h5⟩ := run_append_keep (P := P) w base t o.type e i z size bytes ht hi hz hsize hby hzs hsz v n xs hown B A m c news hr h1 h63 hbytes hbase
 unfold Oper.wp execOp
 simp only [ho, resolve, invoke, builtin, Sem.run_bind, Sem.run_pure, Result.andThen_ok, List.map_toArray, List.map_cons, List.map_nil, hs, hx, hrun]
 exact hK _ _ (h v' w' h2 h3 h4 h5)
/-- The mark of list i at place k. -/
def nmL (i k : Nat) : List UInt8 := [109, UInt8.ofNat (65 + i % 26), UInt8.ofNat (65 + i / 26 % 26), UInt8.ofNat (48 + k % 10), UInt8.ofNat (48 + k / 10 % 10), UInt8.ofNat (48 + k / 100 % 10)]
def nm (i k : Nat) : ByteArray := ⟨(nmL i k).toArray⟩
theorem u8_small {x : Nat} (h : x < 256) : (UInt8.ofNat x).toNat = x := by rw [UInt8.toNat_ofNat']; omega
set_option maxHeartbeats 1000000 in
set_option maxRecDepth 100000 in
theorem name_any (i k : Nat) (hi : i ≤ 1000000000) (hk : k ≤ 1000000000000) (w : World) :
  Calls Tryz.prog 204 #[.int .i64 i, .int .i64 k] w fun e w' => e = .returned (.string (nm i k)) ∧ Below w.heap.size w w' := by
 obtain ⟨a1, h1⟩ : ∃ a1 : Nat, a1 = 65 + i % 26 := ⟨_, rfl⟩
 obtain ⟨a2, h2⟩ : ∃ a2 : Nat, a2 = 65 + i / 26 % 26 := ⟨_, rfl⟩
 obtain ⟨a3, h3⟩ : ∃ a3 : Nat, a3 = 48 + k % 10 := ⟨_, rfl⟩
 obtain ⟨a4, h4⟩ : ∃ a4 : Nat, a4 = 48 + k / 10 % 10 := ⟨_, rfl⟩
 obtain ⟨a5, h5⟩ : ∃ a5 : Nat, a5 = 48 + k / 100 % 10 := ⟨_, rfl⟩
 have e1 : (65 : Int) + (i : Int) % 26 = (a1 : Int) := by omega
 have e2 : (65 : Int) + (i : Int) / 26 % 26 = (a2 : Int) := by omega
 have e3 : (48 : Int) + (k : Int) % 10 = (a3 : Int) := by omega
 have e4 : (48 : Int) + (k : Int) / 10 % 10 = (a4 : Int) := by omega
 have e5 : (48 : Int) + (k : Int) / 100 % 10 = (a5 : Int) := by omega
 have l1 : a1 < 256 := by omega
 have l2 : a2 < 256 := by omega
 have l3 : a3 < 256 := by omega
 have l4 : a4 < 256 := by omega
 have l5 : a5 < 256 := by omega
 have HN : Hid (nm i k = ⟨[109, UInt8.ofNat a1, UInt8.ofNat a2, UInt8.ofNat a3, UInt8.ofNat a4, UInt8.ofNat a5].toArray⟩) := by show _ = _; rw [h1, h2, h3, h4, h5]; rfl
 have HC : Hid (∀ (t : TypeId), (convert 261 9 (.slice (some ⟨w.heap.size, 0, none⟩) 6 6)).run Tryz.prog (w.alloc (.cells #[.int .u8 109, .int .u8 (a1 : Int), .int .u8 (a2 : Int), .int .u8 (a3 : Int), .int .u8 (a4 : Int), .int .u8 (a5 : Int)] t)) = .ok (.string ⟨[109, UInt8.ofNat a1, UInt8.ofNat a2, UInt8.ofNat a3, UInt8.ofNat a4, UInt8.ofNat a5].toArray⟩) (w.alloc (.cells #[.int .u8 109, .int .u8 (a1 : Int), .int .u8 (a2 : Int), .int .u8 (a3 : Int), .int .u8 (a4 : Int), .int .u8 (a5 : Int)] t))) := by
  intro t
  have hb : Lib.byteCells [109, UInt8.ofNat a1, UInt8.ofNat a2, UInt8.ofNat a3, UInt8.ofNat a4, UInt8.ofNat a5] = [.int .u8 109, .int .u8 (a1 : Int), .int .u8 (a2 : Int), .int .u8 (a3 : Int), .int .u8 (a4 : Int), .int .u8 (a5 : Int)] := by
   simp only [Lib.byteCells, List.map_cons, List.map_nil, u8_small l1, u8_small l2, u8_small l3, u8_small l4, u8_small l5]
   rfl
  exact run_bytes_string (B := w.heap.size + 1) (P := Tryz.prog) _ Tryz.underlying261 Tryz.underlying5 Tryz.underlying9 rfl (by rw [hb]; exact reads_newV w _ t _ rfl rfl rfl (Nat.lt_succ_self _))
 have hc0 := HC.out 5
 have m1 : (a1 : Int) % 256 = (a1 : Int) := by omega
 have m2 : (a2 : Int) % 256 = (a2 : Int) := by omega
 have m3 : (a3 : Int) % 256 = (a3 : Int) := by omega
 have m4 : (a4 : Int) % 256 = (a4 : Int) := by omega
 have m5 : (a5 : Int) % 256 = (a5 : Int) := by omega
 clear h1 h2 h3 h4 h5 l1 l2 l3 l4 l5 HC
 go_enter Tryz.func204, Tryz.ntmps204
 go_wp2
 go_ret
 exact ⟨ret_string HN.out.symm, (Below.refl _ _).alloc (Nat.le_refl _) _⟩
theorem own_below {w w' : World} {base : Nat} {e : TypeId} {size : Nat} {v : Value} {n : Nat} {xs : List Value} (h : w.ownsRow base e size v n xs) {B : Nat} (hb : Below B w w') (hB : ∀ k, v.ownBlock = some k → k < B) : w'.ownsRow base e size v n xs := by
 refine ⟨h.1, ?_⟩
 rcases h.2 with hn | ⟨g, cap, cur, rfl, hbg, hg, rest⟩
 ·exact .inl hn
 ·exact .inr ⟨g, cap, cur, rfl, hbg, (hb.block g (hB g (by simp [Value.ownBlock]))).trans hg, rest⟩
end Go.Proofs.YtnpkplegeddhcaaGreat
namespace Go.Proofs.YtnpkplegeddhcaaGreat
open Go.RowKit
set_option maxRecDepth 100000
namespace Kb
theorem info_list (P : Program) (t : TypeId) (h : (P.info? t).map (fun i => (i.zero, i.size, i.bytes)) = some (some (.slice none 0 0), 1, 24)) : ∃ i, P.info? t = some i ∧ i.zero = some (.slice none 0 0) ∧ i.size = 1 ∧ i.bytes = 24 := info_parts h
/-- A slice value. -/
def slB (u : Value) : Prop := ∃ A n c, u = .slice A n c
/-- All cells of a row's block are slices, those behind its end too. -/
def AllSl (w : World) (v : Value) : Prop := ∀ g, v.ownBlock = some g → ∀ cs t fr, w.heap[g]? = some (.cells cs t fr) → ∀ u ∈ cs.toList, slB u
theorem AllSl.keep {w w' : World} {v : Value} (h : AllSl w v) (hb : ∀ k, v.ownBlock = some k → w'.heap[k]? = w.heap[k]?) : AllSl w' v := fun g hg cs t fr hc => h g hg cs t fr ((hb g hg).symm.trans hc)
theorem AllSl.nil (w : World) : AllSl w (.slice none 0 0) := fun g hg => by simp [Value.ownBlock] at hg
/-- One more slice behind a row of slices. -/
theorem run_append_sl {P : Program} (w : World) (base : Nat) (t ty e : TypeId) (i : TypeInfo) (ht : P.underlying t = some (.slice e)) (hi : P.info? e = some i) (hz : i.zero = some (.slice none 0 0)) (hsize : i.size = 1) (hby : i.bytes = 24)
  (v : Value) (n : Nat) (xs : List Value) (hown : w.ownsRow base e 1 v n xs) (hall : AllSl w v) (B : Nat) (ad : Addr) (c : Nat) (u : Value) (hu : slB u) (hr : Reads w B 1 (some ad) 1 [u])
  (h63 : n + 1 ≤ maxLen) (hbytes : (n + 1) * 24 ≤ 140737488355328) (hbase : base ≤ w.heap.size) :
  ∃ v' w', (Builtin.append_ #[t, t] ty #[v, .slice (some ad) 1 c]).run P w = .ok v' w' ∧ w'.ownsRow base e 1 v' (n + 1) (xs ++ [u]) ∧ w.grownBy w' v.ownBlock ∧ (v'.ownBlock = v.ownBlock ∨ v'.ownBlock = some w.heap.size) ∧ AllSl w' v' := by
 have h1 : ∀ x ∈ [u], x.oneCell' = true := by
  intro x hx
  obtain rfl : x = u := by simpa using hx
  obtain ⟨A, n, c, rfl⟩ := hu
  rfl
 obtain ⟨v', w', hrun, h2, h3, h4⟩ := run_append_any (P := P) w base t ty e i (.slice none 0 0) 1 24 ht hi hz hsize hby rfl (by decide) v n xs hown B (some ad) 1 c [u] hr h1 h63 hbytes hbase
 refine ⟨v', w', hrun, h2, h3, h4, ?_⟩
 have hcells : ∀ j x, [u][j]? = some x → w.cell? (ad.add j) = some x := by
  obtain ⟨ad', h, _, hc⟩ := hr.2 (by omega)
  injection h with h
  subst h
  exact hc
 have hzc : ∀ m, ∀ x ∈ (Builtin.zeroCells (Value.slice none 0 0).cells m).toList, slB x := by
  intro m x hx
  simp only [Builtin.zeroCells, Array.toList_map, List.mem_map] at hx
  obtain ⟨j, _, rfl⟩ := hx
  have hone : j % (Value.slice none 0 0).cells.size = 0 := Nat.mod_one j
  rw [hone]
  exact ⟨none, 0, 0, rfl⟩
 have hsmall : n + 1 ≤ 9223372036854775807 := by simp only [maxLen] at h63; omega
 rcases hown.2 with ⟨rfl, rfl⟩ | ⟨g, cap, cur, rfl, hbg, hg, hnc, hcm, hcs, htake⟩
 ·have hr2 := run_append_nil (P := P) w t ty e i _ ht hi hz ad 1 c [u] (by rw [hsize]; rfl) hcells (by omega) (by omega) (by rw [hby]; omega)
  rw [hrun] at hr2
  injection hr2 with e1 e2
  subst e1 e2
  intro g hg cs t' fr hc x hx
  obtain rfl : w.heap.size = g := by simpa [Value.ownBlock] using hg
  have he := (heap_alloc_new w.drew _).symm.trans hc
  injection he with he
  injection he with he _ _
  rw [← he, Array.toList_append, List.mem_append] at hx
  rcases hx with hx | hx
  ·obtain rfl : x = u := by simpa using hx
   exact hu
  ·exact hzc _ x hx
 ·have hq := hall g rfl cur e (0, 0) hg
  by_cases hroom : n + 1 ≤ cap
  ·have hr2 := run_append_room (P := P) w t ty e i ht hi g n cap cur hg ad 1 c [u] (by rw [hsize]; rfl) hcells h1 hroom (by rw [hsize, hcs]; simp; omega)
   rw [hrun] at hr2
   injection hr2 with e1 e2
   subst e1 e2
   intro g' hg' cs t' fr hc x hx
   obtain rfl : g = g' := by simpa [Value.ownBlock] using hg'
   have he := (setRow_heap w g cur _ e _ hg).symm.trans hc
   injection he with he
   injection he with he _ _
   rw [← he] at hx
   simp only [List.mem_append] at hx
   rcases hx with (hx | hx) | hx
   ·exact hq x (List.mem_of_mem_take hx)
   ·obtain rfl : x = u := by simpa using hx
    exact hu
   ·exact hq x (List.mem_of_mem_drop hx)
  ·have hr2 := run_append_grow (P := P) w t ty e i _ ht hi hz ⟨g, 0, none⟩ n cap xs (by rw [hsize]; exact hown.1) (hown.cells (g := g) rfl) ad 1 c [u] (by rw [hsize]; rfl) hcells (by omega) (by omega) (by rw [hby]; exact growslice_fits (by omega) hbytes)
   rw [hrun] at hr2
   injection hr2 with e1 e2
   subst e1 e2
   intro g' hg' cs t' fr hc x hx
   obtain rfl : w.heap.size = g' := by simpa [Value.ownBlock] using hg'
   have he := (heap_alloc_new w.drew _).symm.trans hc
   injection he with he
   injection he with he _ _
   rw [← he, Array.toList_append, Array.toList_append, List.mem_append, List.mem_append] at hx
   rcases hx with (hx | hx) | hx
   ·have hx' : x ∈ xs := by simpa using hx
    rw [← htake] at hx'
    exact hq x (List.mem_of_mem_take hx')
   ·obtain rfl : x = u := by simpa using hx
    exact hu
   ·exact hzc _ x hx
theorem wp_append_sl {P : Program} {w : World} {o : Oper} {a : Act} {K : Act → World → Prop} {Q : Exit → Act → World → Prop} (s x : Operand) (t : TypeId)
  (ho : o.op = .call { callee := .builtin .append, args := #[s, x], argTypes := #[t, t] })
  (base : Nat) (e : TypeId) (i : TypeInfo) (ht : P.underlying t = some (.slice e)) (hi : P.info? e = some i) (hz : i.zero = some (.slice none 0 0)) (hsize : i.size = 1) (hby : i.bytes = 24)
  (v : Value) (n : Nat) (xs : List Value) (hs : a.eval s = v) (hown : w.ownsRow base e 1 v n xs) (hall : AllSl w v)
  (B : Nat) (ad : Addr) (c : Nat) (u : Value) (hu : slB u) (hx : a.eval x = .slice (some ad) 1 c) (hr : Reads w B 1 (some ad) 1 [u])
  (h63 : n + 1 ≤ maxLen) (hbytes : (n + 1) * 24 ≤ 140737488355328) (hbase : base ≤ w.heap.size)
  (h : ∀ v' w', w'.ownsRow base e 1 v' (n + 1) (xs ++ [u]) → w.grownBy w' v.ownBlock → (v'.ownBlock = v.ownBlock ∨ v'.ownBlock = some w.heap.size) → AllSl w' v' → K (a.put o.dst v') w') : o.wp P a w K Q := by
 obtain ⟨v', w', hrun, h2, h3, h4, h5⟩ := run_append_sl (P := P) w base t o.type e i ht hi hz hsize hby v n xs hown hall B ad c u hu hr h63 hbytes hbase
 unfold Oper.wp execOp
 simp only [ho, resolve, invoke, builtin, Sem.run_bind, Sem.run_pure, Result.andThen_ok, List.map_toArray, List.map_cons, List.map_nil, hs, hx, hrun]
 exact h v' w' h2 h3 h4 h5
theorem wpList_append_sl {P : Program} {w : World} {ops : Array Oper} {rest : List Oper} {o : Oper} {a : Act} {Q : Exit → Act → World → Prop} (hgd : o.guard = none) (s x : Operand) (t : TypeId)
  (ho : o.op = .call { callee := .builtin .append, args := #[s, x], argTypes := #[t, t] })
  (base : Nat) (e : TypeId) (i : TypeInfo) (ht : P.underlying t = some (.slice e)) (hi : P.info? e = some i) (hz : i.zero = some (.slice none 0 0)) (hsize : i.size = 1) (hby : i.bytes = 24)
  (v : Value) (n : Nat) (xs : List Value) (hs : a.eval s = v) (hown : w.ownsRow base e 1 v n xs) (hall : AllSl w v)
  (B : Nat) (ad : Addr) (c : Nat) (u : Value) (hu : slB u) (hx : a.eval x = .slice (some ad) 1 c) (hr : Reads w B 1 (some ad) 1 [u])
  (h63 : n + 1 ≤ maxLen) (hbytes : (n + 1) * 24 ≤ 140737488355328) (hbase : base ≤ w.heap.size)
  (h : ∀ v' w', w'.ownsRow base e 1 v' (n + 1) (xs ++ [u]) → w.grownBy w' v.ownBlock → (v'.ownBlock = v.ownBlock ∨ v'.ownBlock = some w.heap.size) → AllSl w' v' → wpList P ops Q rest (a.put o.dst v') w') : wpList P ops Q (o :: rest) a w :=
 wpList_plain hgd fun _ hK => wp_append_sl s x t ho base e i ht hi hz hsize hby v n xs hs hown hall B ad c u hu hx hr h63 hbytes hbase fun v' w' h2 h3 h4 h5 => hK _ _ (h v' w' h2 h3 h4 h5)
theorem step_append_sl {P : Program} {w : World} {ops : Array Oper} {o : Oper} {a : Act} {K : Act → World → Prop} {Q : Exit → Act → World → Prop} {E : Prop} (hgd : o.guard = none) (s x : Operand) (t : TypeId)
  (ho : o.op = .call { callee := .builtin .append, args := #[s, x], argTypes := #[t, t] })
  (base : Nat) (e : TypeId) (i : TypeInfo) (ht : P.underlying t = some (.slice e)) (hi : P.info? e = some i) (hz : i.zero = some (.slice none 0 0)) (hsize : i.size = 1) (hby : i.bytes = 24)
  (v : Value) (n : Nat) (xs : List Value) (hs : a.eval s = v) (hown : w.ownsRow base e 1 v n xs) (hall : AllSl w v)
  (B : Nat) (ad : Addr) (c : Nat) (u : Value) (hu : slB u) (hx : a.eval x = .slice (some ad) 1 c) (hr : Reads w B 1 (some ad) 1 [u])
  (h63 : n + 1 ≤ maxLen) (hbytes : (n + 1) * 24 ≤ 140737488355328) (hbase : base ≤ w.heap.size)
  (h : ∀ v' w', w'.ownsRow base e 1 v' (n + 1) (xs ++ [u]) → w.grownBy w' v.ownBlock → (v'.ownBlock = v.ownBlock ∨ v'.ownBlock = some w.heap.size) → AllSl w' v' → K (a.put o.dst v') w') :
  if Region.wanted o (yielded ops a.tmps) = true then Oper.wp P o a w K Q else E := by
 have hw : Region.wanted o (yielded ops a.tmps) = true := by simp [Region.wanted, hgd]
 rw [if_pos hw]
 exact wp_append_sl s x t ho base e i ht hi hz hsize hby v n xs hs hown hall B ad c u hu hx hr h63 hbytes hbase h
/-- The cells of a list. -/
def cs {E : Type} (ec : E → List Value) (l : List E) : List Value := l.flatMap ec
/-- Cells laid into a row. -/
def lay (xs : List Value) : Nat → List Value → List Value
 | _, [] => xs
 | o, v :: r => lay (xs.set o v) (o + 1) r
theorem lay_len : ∀ (vs xs : List Value) (o : Nat), (lay xs o vs).length = xs.length
 | [], _, _ => rfl
 | v :: r, xs, o => by simp only [lay]; rw [lay_len r, List.length_set]
theorem lay_eq : ∀ (vs xs : List Value) (o : Nat), o + vs.length ≤ xs.length → lay xs o vs = xs.take o ++ vs ++ xs.drop (o + vs.length)
 | [], xs, o, _ => by simp [lay]
 | v :: r, xs, o, h => by
  simp only [List.length_cons] at h
  simp only [lay]
  rw [lay_eq r _ _ (by rw [List.length_set]; omega)]
  have h1 : (xs.set o v).take (o + 1) = xs.take o ++ [v] := by
   rw [List.take_set, List.take_add_one, List.getElem?_eq_getElem (by omega), List.set_append_right _ _ (by simp; omega)]
   simp [Nat.min_eq_left (show o ≤ xs.length by omega)]
  have h2 : (xs.set o v).drop (o + 1 + r.length) = xs.drop (o + (v :: r).length) := by
   rw [List.drop_set_of_lt (by omega), List.length_cons, show o + 1 + r.length = o + (r.length + 1) from by omega]
  rw [h1, h2]
  simp
theorem stored_cells {base : Nat} {e : TypeId} {size : Nat} {g n cap : Nat} : ∀ (vs : List Value) (o : Nat) (xs : List Value) (w : World), w.ownsRow base e size (.slice (some ⟨g, 0, none⟩) n cap) n xs → (w.setCells g o vs).ownsRow base e size (.slice (some ⟨g, 0, none⟩) n cap) n (lay xs o vs)
 | [], _, _, _, h => h
 | v :: r, o, xs, _, h => stored_cells r (o + 1) (xs.set o v) _ (h.stored o v).1
theorem setCells_other (g : Nat) : ∀ (vs : List Value) (o : Nat) (w : World) (k : Nat), k ≠ g → (w.setCells g o vs).heap[k]? = w.heap[k]?
 | [], _, _, _, _ => rfl
 | _ :: r, o, _, k, h => (setCells_other g r (o + 1) _ k h).trans (Below.heap_setCell _ _ _ _ h)
theorem Mv.setCells_ {S S' : List Nat} {g : Nat} : ∀ (vs : List Value) (o : Nat) {w w' : World}, Mv S S' w w' → g ∈ S' → Mv S S' w (w'.setCells g o vs)
 | [], _, _, _, h, _ => h
 | v :: r, o, _, _, h, hg => Mv.setCells_ r (o + 1) (h.set_ hg o v) hg
theorem cell_setCells {w : World} {q o : Nat} {vs : List Value} {p : Addr} (h : p.block ≠ q) : (w.setCells q o vs).cell? p = w.cell? p := World.cell?_of_block (setCells_other q vs o w p.block h)
theorem ptr_add (q n : Nat) : Value.pointer (some ((⟨q, 0, none⟩ : Addr).add n)) = .pointer (some ⟨q, n, none⟩) := by rw [Addr.add_lit, Nat.zero_add]
/-- A struct stored into a part of a block, as an operation of a region that draws. -/
theorem step_store_part {P : Program} {o : Oper} {a : Act} {w : World} {K : Act → World → Prop} {Q : Exit → Act → World → Prop} (ty : TypeId) (x y : Operand) (ho : o.op = .store ty x y)
  (b off : Nat) (vs : List Value) (hx : a.eval x = .pointer (some ⟨b, off, none⟩)) (hy : a.eval y = .agg vs.toArray) (T : TypeId) (old : Array Value) (hg : w.heap[b]? = some (.cells old T (0, 0)))
  (hi : (P.info? ty).map (·.size) = some vs.length) (hold : off + vs.length ≤ old.size) (h1 : ∀ v ∈ vs, v.oneCell' = true)
  (h : K (a.put o.dst undef) (w.setCells b off vs)) : o.wp P a w K Q := by
 have hst := run_storeCells_cells (P := P) b off vs 0 w (fun j hj => by rw [Lib.cell_of_heap hg, Array.getElem?_eq_getElem (by omega)]; rfl) (fun j _ => Lib.frozen_of_heap hg _) h1
 simp only [Nat.add_zero] at hst
 have hrun : (storeVar ty ⟨b, off, none⟩ (.agg vs.toArray)).run P w = .ok () (w.setCells b off vs) := by
  cases hq : P.info? ty with
  | none => simp [hq] at hi
  | some i =>
   have hs : vs.length = i.size := by simp [hq] at hi; omega
   simp [storeVar, sizeOf, typeInfo, hq, Value.cells, hs, hst]
 unfold Oper.wp execOp
 simp only [ho, hx, hy, Instr.storeAt, Instr.sureAddr, Sem.run_bind, Sem.run_pure, Result.andThen_ok, hrun]
 exact h
/-- A struct read out of a row, in a region that draws. -/
theorem yields_cells {P : Program} {ops : Array Oper} {S : World → Prop} {op : Oper} {a : Act} (hw : Region.wanted op (yielded ops a.tmps) = true) (ty : TypeId) (x : Operand) (ho : op.op = .load ty x)
  (ad : Addr) (hx : a.eval x = .pointer (some ad)) (cs : List Value) (d : TypeDesc) (hS : ∀ w, S w → ∀ j v, cs[j]? = some v → w.cell? (ad.add j) = some v)
  (hu : P.underlying ty = some d) (hd : (match d with | .struct _ | .array _ _ => true | _ => false) = true) (hi : (P.info? ty).map (·.size) = some cs.length) : YieldsIf P ops S op (.agg cs.toArray) a :=
 .inl ⟨hw, fun w hw' => by
  have hl := run_loadCells_list (P := P) w ad cs (hS w hw')
  have hrun : (loadVar ty ad).run P w = .ok (.agg cs.toArray) w := by
   cases hq : P.info? ty with
   | none => simp [hq] at hi
   | some i =>
    have hs : i.size = cs.length := by simpa [hq] using hi
    have hagg : (isAgg ty).run P w = .ok true w := by
     unfold isAgg
     rw [Sem.run_bind, run_underlying hu w]
     cases d <;> simp_all
    simp [loadVar, Sem.run_bind, hagg, sizeOf, typeInfo, hq, hs, hl]
  unfold execOp
  simp only [ho, hx, Instr.loadAt, Instr.sureAddr, Sem.run_bind, Sem.run_pure, Result.andThen_ok, hrun]⟩
section
variable {E : Type} {ec : E → List Value} {sz : Nat} {te tr : TypeId} {off : Nat} {mk : ByteArray → E} {bc : Array Value}
theorem cs_append (a b : List E) : cs ec (a ++ b) = cs ec a ++ cs ec b := by simp [cs]
theorem cs_one (x : E) : cs ec [x] = ec x := by simp [cs]
theorem cs_len (hs : ∀ x, (ec x).length = sz) (l : List E) : (cs ec l).length = l.length * sz := by
 induction l with
 | nil => simp [cs]
 | cons y l ih =>
  have e : cs ec (y :: l) = ec y ++ cs ec l := rfl
  rw [e, List.length_append, ih, hs, List.length_cons, Nat.add_mul, Nat.one_mul, Nat.add_comm]
theorem cs_take (hs : ∀ x, (ec x).length = sz) (l : List E) (k : Nat) (hk : k ≤ l.length) : (cs ec l).take (k * sz) = cs ec (l.take k) := by
 conv => lhs; rw [← List.take_append_drop k l, cs_append]
 rw [List.take_append_of_le_length (by rw [cs_len hs, List.length_take, Nat.min_eq_left hk]; exact Nat.le_refl _), List.take_of_length_le (by rw [cs_len hs, List.length_take, Nat.min_eq_left hk]; exact Nat.le_refl _)]
theorem cs_drop (hs : ∀ x, (ec x).length = sz) (l : List E) (k : Nat) (hk : k ≤ l.length) : (cs ec l).drop (k * sz) = cs ec (l.drop k) := by
 conv => lhs; rw [← List.take_append_drop k l, cs_append]
 exact List.drop_left' (by rw [cs_len hs, List.length_take, Nat.min_eq_left hk])
theorem cs_get (hs : ∀ x, (ec x).length = sz) (l : List E) (k : Nat) (x : E) (hk : l[k]? = some x) (j : Nat) (v : Value) (hv : (ec x)[j]? = some v) : (cs ec l)[k * sz + j]? = some v := by
 have hkl := (List.getElem?_eq_some_iff.1 hk).1
 have hjl := (List.getElem?_eq_some_iff.1 hv).1
 have h1 : (cs ec l).drop (k * sz) = ec x ++ cs ec (l.drop (k + 1)) := by
  rw [cs_drop hs l k (by omega), drop_cons hk]
  rfl
 rw [← List.getElem?_drop, h1, List.getElem?_append_left hjl]
 exact hv
theorem cs_set (hs : ∀ x, (ec x).length = sz) (l : List E) (j : Nat) (x : E) (hj : j < l.length) : cs ec (l.set j x) = lay (cs ec l) (j * sz) (ec x) := by
 have hle : j * sz + sz ≤ l.length * sz := by have := Nat.mul_le_mul_right sz hj; rw [Nat.succ_mul] at this; exact this
 rw [lay_eq _ _ _ (by rw [hs, cs_len hs]; exact hle), hs, cs_take hs l j (by omega), show j * sz + sz = (j + 1) * sz from by rw [Nat.succ_mul], cs_drop hs l (j + 1) hj, List.set_eq_take_append_cons_drop, if_pos hj, cs_append]
 show _ ++ (ec x ++ _) = _
 rw [List.append_assoc]
 rfl
theorem cs_ones (h1 : ∀ x, ∀ u ∈ ec x, u.oneCell' = true) (l : List E) : ∀ u ∈ cs ec l, u.oneCell' = true := by
 intro u hu
 obtain ⟨x, _, hx⟩ := List.mem_flatMap.1 hu
 exact h1 x u hx
/-- One element of a list in memory. -/
theorem el_at (hs : ∀ x, (ec x).length = sz) (hp : 0 < sz) {w : World} {B n : Nat} {A : Option Addr} {l : List E} (h : Reads w B sz A n (cs ec l)) {k : Nat} (hk : k < l.length) :
  ∃ (ad : Addr) (x : E), A = some ad ∧ ad.block < B ∧ l[k]? = some x ∧ ∀ j v, (ec x)[j]? = some v → w.cell? ((ad.add (k * sz)).add j) = some v := by
 have h1 := h.1
 rw [cs_len hs] at h1
 have hn : l.length = n := Nat.eq_of_mul_eq_mul_right hp h1
 obtain ⟨ad, e, hb, hc⟩ := h.2 (by omega)
 have hx : l[k]? = some l[k] := List.getElem?_eq_getElem hk
 refine ⟨ad, _, e, hb, hx, fun j v hv => ?_⟩
 rw [add_of_add]
 exact hc _ _ (cs_get hs l k _ hx j v hv)
/-- The marks of list i from a place on. -/
def marks (mk : ByteArray → E) (i fr n : Nat) : List E := (List.range n).map fun j => mk (nm i (fr + j))
theorem marks_len (i fr n : Nat) : (marks mk i fr n).length = n := by simp [marks]
theorem marks_succ (i fr n : Nat) : marks mk i fr (n + 1) = marks mk i fr n ++ [mk (nm i (fr + n))] := by simp [marks, List.range_succ]
theorem marks_add (i n m : Nat) : marks mk i 0 (n + m) = marks mk i 0 n ++ marks mk i n m := by
 induction m with
 | zero => simp [marks]
 | succ m ih => rw [← Nat.add_assoc, marks_succ, ih, marks_succ, Nat.zero_add, List.append_assoc]
theorem marks_get (i n k : Nat) (h : k < n) : (marks mk i 0 n)[k]? = some (mk (nm i k)) := by unfold marks; rw [List.getElem?_map, List.getElem?_range h]; simp
/-- One list that is kept: its value, what it holds; its copy, what that holds. -/
structure KRow (E : Type) where
 v : Value
 ss : List E
 m : Value
 mm : List E
def KRow.blocks (r : KRow E) : List Nat := r.v.ownBlock.toList ++ r.m.ownBlock.toList
/-- The lists' blocks are apart from each other. -/
def rowBlocks (L : List (KRow E)) : List Nat := L.flatMap KRow.blocks
/-- A kept list in memory. -/
structure KRow.At (ec : E → List Value) (sz : Nat) (te : TypeId) (r : KRow E) (w : World) : Prop where
 v : w.ownsRow 0 te sz r.v r.ss.length (cs ec r.ss)
 m : w.ownsRow 0 te sz r.m r.mm.length (cs ec r.mm)
 lv : r.ss.length ≤ 1000000000
 lm : r.mm.length ≤ 1000000000
/-- The blocks are apart: the book's, the two rows', the lists'. -/
structure Sep (g : Nat) (T W : Option Nat) (R : List Nat) : Prop where
 gT : T ≠ some g
 gW : W ≠ some g
 gR : g ∉ R
 TW : ∀ k, T = some k → W ≠ some k
 TR : ∀ k, T = some k → k ∉ R
 WR : ∀ k, W = some k → k ∉ R
 nd : R.Nodup
/-- The book in block g of cells bc: the rows tv, wv of its lists of one kind and their copies, from cell off on. -/
structure KAt (ec : E → List Value) (sz : Nat) (te tr : TypeId) (off g : Nat) (bc : Array Value) (tv wv : Value) (L : List (KRow E)) (w : World) : Prop where
 cells : w.heap[g]? = some (.cells bc 61 (0, 0))
 siz : bc.size = 34
 c0 : bc[off]? = some tv
 c1 : bc[off + 1]? = some wv
 ot : w.ownsRow 0 tr 1 tv L.length (L.map KRow.v)
 ow : w.ownsRow 0 tr 1 wv L.length (L.map KRow.m)
 qt : AllSl w tv
 qw : AllSl w wv
 rows : ∀ r ∈ L, r.At ec sz te w
 len : L.length ≤ 250
 sep : Sep g tv.ownBlock wv.ownBlock (rowBlocks L)
def bkBlocks (g : Nat) (tv wv : Value) (L : List (KRow E)) : List Nat := g :: tv.ownBlock.toList ++ wv.ownBlock.toList ++ rowBlocks L
theorem own_keep' {w w' : World} {base : Nat} {e : TypeId} {size : Nat} {v : Value} {n : Nat} {xs : List Value} (h : w.ownsRow base e size v n xs) (hb : ∀ k, v.ownBlock = some k → w'.heap[k]? = w.heap[k]?) : w'.ownsRow base e size v n xs := by
 refine ⟨h.1, ?_⟩
 rcases h.2 with hn | ⟨g, cap, cur, rfl, hbg, hg, rest⟩
 ·exact .inl hn
 ·exact .inr ⟨g, cap, cur, rfl, hbg, (hb g (by simp [Value.ownBlock])).trans hg, rest⟩
theorem mem_rowBlocks {L : List (KRow E)} {r : KRow E} {k : Nat} (hr : r ∈ L) (hk : r.v.ownBlock = some k ∨ r.m.ownBlock = some k) : k ∈ rowBlocks L := by
 refine List.mem_flatMap.2 ⟨r, hr, ?_⟩
 unfold KRow.blocks
 rcases hk with h | h <;> simp [h]
section
variable {g : Nat} {tv wv : Value} {L : List (KRow E)} {w w' : World}
/-- The book where its own cells may have changed elsewhere, the lists' blocks not. -/
theorem KAt.keep_bc (h : KAt ec sz te tr off g bc tv wv L w) {bc' : Array Value} (hg : w'.heap[g]? = some (.cells bc' 61 (0, 0))) (hz : bc'.size = 34) (h0 : bc'[off]? = bc[off]?) (h1 : bc'[off + 1]? = bc[off + 1]?) (hb : ∀ k ∈ bkBlocks g tv wv L, k ≠ g → w'.heap[k]? = w.heap[k]?) : KAt ec sz te tr off g bc' tv wv L w' := by
 have hb1 : ∀ k, tv.ownBlock = some k → w'.heap[k]? = w.heap[k]? := fun k hk => hb k (by unfold bkBlocks; simp [hk]) (fun e => h.sep.gT (e ▸ hk))
 have hb2 : ∀ k, wv.ownBlock = some k → w'.heap[k]? = w.heap[k]? := fun k hk => hb k (by unfold bkBlocks; simp [hk]) (fun e => h.sep.gW (e ▸ hk))
 have hb3 : ∀ k ∈ rowBlocks L, w'.heap[k]? = w.heap[k]? := fun k hk => hb k (by unfold bkBlocks; simp [hk]) (fun e => h.sep.gR (e ▸ hk))
 exact ⟨hg, hz, h0.trans h.c0, h1.trans h.c1, own_keep' h.ot hb1, own_keep' h.ow hb2, h.qt.keep hb1, h.qw.keep hb2,
  fun r hr => ⟨own_keep' (h.rows r hr).v (fun k hk => hb3 k (mem_rowBlocks hr (.inl hk))), own_keep' (h.rows r hr).m (fun k hk => hb3 k (mem_rowBlocks hr (.inr hk))), (h.rows r hr).lv, (h.rows r hr).lm⟩, h.len, h.sep⟩
theorem KAt.keep (h : KAt ec sz te tr off g bc tv wv L w) (hb : ∀ k ∈ bkBlocks g tv wv L, w'.heap[k]? = w.heap[k]?) : KAt ec sz te tr off g bc tv wv L w' :=
 h.keep_bc ((hb g (by unfold bkBlocks; simp)).trans h.cells) h.siz rfl rfl (fun k hk _ => hb k hk)
theorem KAt.there (h : KAt ec sz te tr off g bc tv wv L w) : ∀ k ∈ bkBlocks g tv wv L, k < w.heap.size := by
 intro k hk
 unfold bkBlocks at hk
 simp only [List.cons_append, List.mem_cons, List.mem_append, Option.mem_toList] at hk
 rcases hk with rfl | (hk | hk) | hk
 ·exact Blk.lt (t := 61) h.cells
 ·exact (h.ot.lt k hk).2
 ·exact (h.ow.lt k hk).2
 ·obtain ⟨r, hr, hk⟩ := List.mem_flatMap.1 hk
  unfold KRow.blocks at hk
  simp only [List.mem_append, Option.mem_toList] at hk
  rcases hk with hk | hk
  ·exact ((h.rows r hr).v.lt k hk).2
  ·exact ((h.rows r hr).m.lt k hk).2
theorem KAt.below (h : KAt ec sz te tr off g bc tv wv L w) (hb : Below w.heap.size w w') : KAt ec sz te tr off g bc tv wv L w' := h.keep fun k hk => hb.block k (h.there k hk)
theorem KAt.drewN (h : KAt ec sz te tr off g bc tv wv L w) (n : Nat) : KAt ec sz te tr off g bc tv wv L (w.drewN n) := h.keep fun _ _ => rfl
theorem KAt.aside {T T' : List Nat} (h : KAt ec sz te tr off g bc tv wv L w) (hm : Mv T T' w w') (ha : ∀ k ∈ bkBlocks g tv wv L, k ∉ T) : KAt ec sz te tr off g bc tv wv L w' := h.keep fun k hk => hm.block k (h.there k hk) (ha k hk)
theorem KAt.cell (h : KAt ec sz te tr off g bc tv wv L w) {j : Nat} {u : Value} (hu : bc[j]? = some u) : w.cell? ⟨g, j, none⟩ = some u := by
 rw [Lib.cell_of_heap h.cells]
 exact hu
theorem KAt.frozen (h : KAt ec sz te tr off g bc tv wv L w) (i : Nat) : w.frozen? ⟨g, i, none⟩ = false := Lib.frozen_of_heap h.cells i
end
theorem size_alloc_one (w : World) (o : Obj) : (w.alloc o).heap.size = w.heap.size + 1 := by simp
/-- A kind's part of an empty book. -/
theorem bk_new (w : World) (hz : bc.size = 34) (h0 : bc[off]? = some (.slice none 0 0)) (h1 : bc[off + 1]? = some (.slice none 0 0)) : KAt ec sz te tr off w.heap.size bc (.slice none 0 0) (.slice none 0 0) ([] : List (KRow E)) (w.alloc (.cells bc 61)) :=
 ⟨heap_alloc_new _ _, hz, h0, h1, World.ownsRow_nil _ _ _ _, World.ownsRow_nil _ _ _ _, AllSl.nil _, AllSl.nil _, by simp, by simp, ⟨by simp [Value.ownBlock], by simp [Value.ownBlock], by simp [rowBlocks], by simp [Value.ownBlock], by simp [Value.ownBlock], by simp [Value.ownBlock], by simp [rowBlocks]⟩⟩
/-- Behind a row of its own that has grown: the other rows. -/
theorem own_grown {w w' : World} {base : Nat} {e : TypeId} {size : Nat} {v : Value} {n : Nat} {xs : List Value} {row : Option Nat} (h : w.ownsRow base e size v n xs) (hg : w.grownBy w' row) (hne : ∀ k, v.ownBlock = some k → row ≠ some k) : w'.ownsRow base e size v n xs :=
 own_keep' h fun k hk => hg.block k (h.lt k hk).2 (fun e => hne k hk e.symm)
theorem rowBlocks_snoc (L : List (KRow E)) (r : KRow E) : rowBlocks (L ++ [r]) = rowBlocks L ++ r.blocks := by simp [rowBlocks]
theorem own_base0 {w : World} {B : Nat} {e : TypeId} {size : Nat} {v : Value} {n : Nat} {xs : List Value} (h : w.ownsRow B e size v n xs) : w.ownsRow 0 e size v n xs := by
 refine ⟨h.1, ?_⟩
 rcases h.2 with h | ⟨g, cap, cur, h1, _, h3⟩
 ·exact .inl h
 ·exact .inr ⟨g, cap, cur, h1, Nat.zero_le _, h3⟩
theorem mem_bk {g : Nat} {tv wv : Value} {L : List (KRow E)} {k : Nat} : k ∈ bkBlocks g tv wv L ↔ k = g ∨ tv.ownBlock = some k ∨ wv.ownBlock = some k ∨ k ∈ rowBlocks L := by
 unfold bkBlocks
 simp only [List.cons_append, List.mem_cons, List.mem_append, Option.mem_toList, or_assoc]
/-- What stands behind Texts. -/
theorem bk_added {g : Nat} {tv wv tv' wv' v m : Value} {L : List (KRow E)} {ss : List E} {w W5 w6 w7 : World} {o : Obj}
  (h : KAt ec sz te tr off g bc tv wv L w) (hv : w.ownsRow 0 te sz v ss.length (cs ec ss)) (ha : ∀ k, v.ownBlock = some k → k ∉ bkBlocks g tv wv L) (hs : ss.length ≤ 1000000000) (hL : L.length < 250)
  (q5 : AllSl W5 tv') (q7 : AllSl w7 wv') (hoff : off + 1 < 34) (hb7 : w7.heap[g]? = some (.cells (bc.setIfInBounds off tv') 61 (0, 0))) (o5 : W5.ownsRow 0 tr 1 tv' (L.length + 1) (L.map KRow.v ++ [v])) (l4 : ∀ k, tv'.ownBlock = some k → tv.ownBlock = some k ∨ w.heap.size ≤ k) (ne4 : tv'.ownBlock ≠ some g)
  (m5 : Mv (g :: tv.ownBlock.toList) (g :: tv'.ownBlock.toList) w W5) (b6 : Below W5.heap.size W5 w6) (om : w6.ownsRow W5.heap.size te sz m ss.length (cs ec ss)) (g7 : (w6.alloc o).grownBy w7 wv.ownBlock)
  (o7 : w7.ownsRow 0 tr 1 wv' (L.length + 1) (L.map KRow.m ++ [m])) (l7 : wv'.ownBlock = wv.ownBlock ∨ wv'.ownBlock = some (w6.alloc o).heap.size) :
  KAt ec sz te tr off g ((bc.setIfInBounds off tv').setIfInBounds (off + 1) wv') tv' wv' (L ++ [⟨v, ss, m, ss⟩]) (w7.setCell ⟨g, off + 1, none⟩ wv') ∧ Mv (g :: tv.ownBlock.toList ++ wv.ownBlock.toList) (g :: tv'.ownBlock.toList ++ wv'.ownBlock.toList) w (w7.setCell ⟨g, off + 1, none⟩ wv') := by
 have z5 := m5.size
 have z6 := b6.size
 have z7 : w6.heap.size + 1 ≤ w7.heap.size := by have := g7.size; rw [size_alloc_one] at this; exact this
 have hth := h.there
 have hg : g < w.heap.size := hth g (mem_bk.2 (.inl rfl))
 have tlt : ∀ k, tv.ownBlock = some k → k < w.heap.size := fun k hk => hth k (mem_bk.2 (.inr (.inl hk)))
 have wlt : ∀ k, wv.ownBlock = some k → k < w.heap.size := fun k hk => hth k (mem_bk.2 (.inr (.inr (.inl hk))))
 have rlt : ∀ k, k ∈ rowBlocks L → k < w.heap.size := fun k hk => hth k (mem_bk.2 (.inr (.inr (.inr hk))))
 have vlt : ∀ k, v.ownBlock = some k → k < w.heap.size := fun k hk => (hv.lt k hk).2
 have va : ∀ k, v.ownBlock = some k → k ≠ g ∧ tv.ownBlock ≠ some k ∧ wv.ownBlock ≠ some k ∧ k ∉ rowBlocks L := fun k hk => by
  have := ha k hk
  rw [mem_bk] at this
  simp only [not_or] at this
  exact this
 have mlt : ∀ k, m.ownBlock = some k → W5.heap.size ≤ k ∧ k < w6.heap.size := fun k hk => om.lt k hk
 have t5 : ∀ k, tv'.ownBlock = some k → k < W5.heap.size := fun k hk => (o5.lt k hk).2
 have l7' : ∀ k, wv'.ownBlock = some k → wv.ownBlock = some k ∨ w6.heap.size ≤ k := fun k hk => by
  rcases l7 with e | e
  ·exact .inl (by rw [← e]; exact hk)
  ·rw [e, size_alloc_one] at hk; injection hk with hk; exact .inr (by omega)
 have keep57 : ∀ k, k < w6.heap.size → wv.ownBlock ≠ some k → w7.heap[k]? = w6.heap[k]? := fun k hk hn => (g7.block k (by rw [size_alloc_one]; omega) (fun e => hn e.symm)).trans (Below.heap_alloc w6 o k hk)
 have k5 : ∀ k, k < W5.heap.size → wv.ownBlock ≠ some k → w7.heap[k]? = W5.heap[k]? := fun k hk hn => (keep57 k (by omega) hn).trans (b6.block k hk)
 have kw : ∀ k, k < w.heap.size → k ≠ g → tv.ownBlock ≠ some k → wv.ownBlock ≠ some k → w7.heap[k]? = w.heap[k]? := fun k hk h1 h2 h3 => (k5 k (by omega) h3).trans (m5.block k hk (by simp only [List.mem_cons, Option.mem_toList, not_or]; exact ⟨h1, h2⟩))
 have fin : ∀ k, k ≠ g → (w7.setCell ⟨g, off + 1, none⟩ wv').heap[k]? = w7.heap[k]? := fun k hk => Below.heap_setCell _ _ _ _ hk
 have hrow : ∀ k, k ∈ rowBlocks L → k ≠ g ∧ tv.ownBlock ≠ some k ∧ wv.ownBlock ≠ some k := fun k hk => ⟨fun e => h.sep.gR (e ▸ hk), fun e => h.sep.TR k e hk, fun e => h.sep.WR k e hk⟩
 have wg : wv'.ownBlock ≠ some g := fun e => by
  rcases l7' g e with h' | h'
  ·exact h.sep.gW h'
  ·omega
 have hnew : ∀ k, k ∈ (⟨v, ss, m, ss⟩ : KRow E).blocks → v.ownBlock = some k ∨ m.ownBlock = some k := fun k hk => by
  unfold KRow.blocks at hk
  simpa only [List.mem_append, Option.mem_toList] using hk
 refine ⟨⟨Blk.set_ (show Blk w7 g 61 _ from hb7) (off + 1) wv', by simp [h.siz], by have := h.siz; rw [Array.getElem?_setIfInBounds_ne (by omega), Array.getElem?_setIfInBounds, if_pos rfl, if_pos (by omega)], by have := h.siz; rw [Array.getElem?_setIfInBounds, if_pos rfl, if_pos (by rw [Array.size_setIfInBounds]; omega)], ?_, ?_, q5.keep (fun k hk => (fin k (fun e => ne4 (by rw [← e]; exact hk))).trans (k5 k (t5 k hk) (fun e => (l4 k hk).elim (fun h' => h.sep.TW k h' e) (fun h' => by have := wlt k e; omega)))), q7.keep (fun k hk => fin k (fun e => wg (by rw [← e]; exact hk))), ?_, by simp; omega, ⟨ne4, wg, ?_, ?_, ?_, ?_, ?_⟩⟩, ?_⟩
 ·rw [List.length_append, List.map_append]
  refine own_keep' o5 (fun k hk => (fin k (fun e => ne4 (by rw [← e]; exact hk))).trans (k5 k (t5 k hk) (fun e => ?_)))
  rcases l4 k hk with h' | h'
  ·exact h.sep.TW k h' e
  ·have := wlt k e; omega
 ·rw [List.length_append, List.map_append]
  exact own_keep' o7 (fun k hk => fin k (fun e => wg (by rw [← e]; exact hk)))
 ·intro r hr
  rcases List.mem_append.1 hr with hr | hr
  ·have h0 := h.rows r hr
   refine ⟨own_keep' h0.v (fun k hk => ?_), own_keep' h0.m (fun k hk => ?_), h0.lv, h0.lm⟩
   ·have hm := mem_rowBlocks hr (.inl hk)
    obtain ⟨a, b, c⟩ := hrow k hm
    exact (fin k a).trans (kw k (rlt k hm) a b c)
   ·have hm := mem_rowBlocks hr (.inr hk)
    obtain ⟨a, b, c⟩ := hrow k hm
    exact (fin k a).trans (kw k (rlt k hm) a b c)
  ·obtain rfl : r = ⟨v, ss, m, ss⟩ := by simpa using hr
   refine ⟨own_keep' hv (fun k hk => ?_), own_keep' (own_base0 om) (fun k hk => ?_), hs, hs⟩
   ·obtain ⟨a, b, c, _⟩ := va k hk
    exact (fin k a).trans (kw k (vlt k hk) a b c)
   ·have := mlt k hk
    exact (fin k (by omega)).trans (keep57 k this.2 (fun e => by have := wlt k e; omega))
 ·rw [rowBlocks_snoc, List.mem_append, not_or]
  refine ⟨h.sep.gR, fun e => ?_⟩
  rcases hnew g e with h' | h'
  ·exact (va g h').1 rfl
  ·have := mlt g h'; omega
 ·intro k hk e
  rcases l4 k hk with h' | h' <;> rcases l7' k e with h'' | h''
  ·exact h.sep.TW k h' h''
  ·have := tlt k h'; omega
  ·have := wlt k h''; omega
  ·have := t5 k hk; omega
 ·intro k hk e
  rw [rowBlocks_snoc, List.mem_append] at e
  rcases e with e | e
  ·rcases l4 k hk with h' | h'
   ·exact h.sep.TR k h' e
   ·have := rlt k e; omega
  ·rcases hnew k e with e | e
   ·rcases l4 k hk with h' | h'
    ·exact (va k e).2.1 h'
    ·have := vlt k e; omega
   ·have := mlt k e; have := t5 k hk; omega
 ·intro k hk e
  rw [rowBlocks_snoc, List.mem_append] at e
  rcases e with e | e
  ·rcases l7' k hk with h' | h'
   ·exact h.sep.WR k h' e
   ·have := rlt k e; omega
  ·rcases hnew k e with e | e
   ·rcases l7' k hk with h' | h'
    ·exact (va k e).2.2.1 h'
    ·have := vlt k e; omega
   ·rcases l7' k hk with h' | h'
    ·have := wlt k h'; have := mlt k e; omega
    ·have := mlt k e; omega
 ·rw [rowBlocks_snoc, List.nodup_append]
  refine ⟨h.sep.nd, ?_, fun a ha' b hb' e => ?_⟩
  ·unfold KRow.blocks
   simp only
   cases hv' : v.ownBlock with
   | none => cases hm' : m.ownBlock <;> simp
   | some a =>
    cases hm' : m.ownBlock with
    | none => simp
    | some b =>
     have h1 := vlt a hv'
     have h2 := mlt b hm'
     simp; omega
  ·subst e
   rcases hnew a hb' with h' | h'
   ·exact (va a h').2.2.2 ha'
   ·have := mlt a h'; have := rlt a ha'; omega
 ·refine ⟨?_, ?_, ?_, ?_, fun k hk hn => ?_, fun k hk => ?_⟩
  ·exact (show (w7.setCell ⟨g, off + 1, none⟩ wv').os = w7.os from rfl).trans (g7.os.trans (b6.os.trans m5.os))
  ·exact (show (w7.setCell ⟨g, off + 1, none⟩ wv').tape = w7.tape from rfl).trans (g7.tape.trans (b6.tape.trans m5.tape))
  ·exact (show (w7.setCell ⟨g, off + 1, none⟩ wv').output = w7.output from rfl).trans (g7.output.trans (b6.output.trans m5.output))
  ·have : (w7.setCell ⟨g, off + 1, none⟩ wv').heap.size = w7.heap.size := by simp [World.setCell]
   omega
  ·simp only [List.cons_append, List.mem_cons, List.mem_append, Option.mem_toList, not_or] at hn
   exact (fin k hn.1).trans (kw k hk hn.1 hn.2.1 hn.2.2)
  ·simp only [List.cons_append, List.mem_cons, List.mem_append, Option.mem_toList] at hk ⊢
   rcases hk with hk | hk | hk
   ·exact .inl (.inl hk)
   ·rcases l4 k hk with h' | h'
    ·exact .inl (.inr (.inl h'))
    ·exact .inr h'
   ·rcases l7' k hk with h' | h'
    ·exact .inl (.inr (.inr h'))
    ·exact .inr (by omega)
/-- The k-th list of a row of lists. -/
theorem row_at {w : World} {B n k : Nat} {tv : Value} {f : KRow E → Value} {L : List (KRow E)} (h : w.ownsRow B tr 1 tv n (L.map f)) (hn : L.length = n) (hk : k < n) : ∃ q c r, tv = .slice (some ⟨q, 0, none⟩) n c ∧ L[k]? = some r ∧ w.cell? ⟨q, k, none⟩ = some (f r) ∧ n ≤ c := by
 obtain ⟨q, cap, rfl, hc, hlt⟩ := h.form (by omega)
 have hcs := h.cells (g := q) rfl
 have hr : L[k]? = some L[k] := List.getElem?_eq_getElem (by omega)
 refine ⟨q, cap, L[k], rfl, hr, ?_, ?_⟩
 ·have := hcs k (f L[k]) (by rw [List.getElem?_map, hr]; rfl)
  unfold Addr.add at this
  split at this
  ·rename_i h0; subst h0; exact this
  ·simpa using this
 ·obtain ⟨A, c, e, hle⟩ := own_form h
  injection e with _ _ e
  omega
def markR (mk : ByteArray → E) (i : Nat) (r : KRow E) : KRow E := ⟨r.v, marks mk i 0 r.ss.length, r.m, r.mm⟩
def markN (mk : ByteArray → E) (j : Nat) (L : List (KRow E)) : List (KRow E) := L.mapIdx fun i r => if i < j then markR mk i r else r
theorem markN_len (mk : ByteArray → E) (j : Nat) (L : List (KRow E)) : (markN mk j L).length = L.length := by simp [markN]
theorem markN_get (mk : ByteArray → E) (j : Nat) (L : List (KRow E)) (k : Nat) : (markN mk j L)[k]? = L[k]?.map fun r => if k < j then markR mk k r else r := by
 unfold markN
 rw [List.getElem?_mapIdx]
theorem markN_zero (mk : ByteArray → E) (L : List (KRow E)) : markN mk 0 L = L := by
 apply List.ext_getElem?
 intro k
 rw [markN_get]
 cases L[k]? <;> simp
theorem markN_v (mk : ByteArray → E) (j : Nat) (L : List (KRow E)) : (markN mk j L).map KRow.v = L.map KRow.v := by
 apply List.ext_getElem?
 intro k
 rw [List.getElem?_map, markN_get, List.getElem?_map]
 cases L[k]? with
 | none => rfl
 | some r =>
  simp only [Option.map_some]
  split <;> rfl
theorem markN_m (mk : ByteArray → E) (j : Nat) (L : List (KRow E)) : (markN mk j L).map KRow.m = L.map KRow.m := by
 apply List.ext_getElem?
 intro k
 rw [List.getElem?_map, markN_get, List.getElem?_map]
 cases L[k]? with
 | none => rfl
 | some r =>
  simp only [Option.map_some]
  split <;> rfl
theorem rowBlocks_of {L L' : List (KRow E)} (hv : L'.map KRow.v = L.map KRow.v) (hm : L'.map KRow.m = L.map KRow.m) : rowBlocks L' = rowBlocks L := by
 induction L generalizing L' with
 | nil =>
  have : L' = [] := by simpa using hv
  rw [this]
 | cons r L ih =>
  cases L' with
  | nil => simp at hv
  | cons r' L' =>
   simp only [List.map_cons, List.cons.injEq] at hv hm
   have := ih hv.2 hm.2
   unfold rowBlocks at this ⊢
   rw [List.flatMap_cons, List.flatMap_cons, this]
   unfold KRow.blocks
   rw [hv.1, hm.1]
theorem markN_blocks (mk : ByteArray → E) (j : Nat) (L : List (KRow E)) : rowBlocks (markN mk j L) = rowBlocks L := rowBlocks_of (markN_v mk j L) (markN_m mk j L)
theorem bkBlocks_mark (mk : ByteArray → E) (g : Nat) (tv wv : Value) (j : Nat) (L : List (KRow E)) : bkBlocks g tv wv (markN mk j L) = bkBlocks g tv wv L := by unfold bkBlocks; rw [markN_blocks]
/-- A list's block is in no other row. -/
theorem nodup_block {L : List (KRow E)} (hn : (rowBlocks L).Nodup) : ∀ {i k : Nat} {r r' : KRow E}, L[i]? = some r → L[k]? = some r' → ∀ {q : Nat}, r.v.ownBlock = some q → (r'.v.ownBlock = some q ∨ r'.m.ownBlock = some q) → i = k ∧ r'.m.ownBlock ≠ some q := by
 induction L with
 | nil => intro i k r r' hr; simp at hr
 | cons a L ih =>
  intro i k r r' hr hr' q hq hq'
  have e : rowBlocks (a :: L) = a.blocks ++ rowBlocks L := rfl
  rw [e, List.nodup_append] at hn
  obtain ⟨h1, h2, h3⟩ := hn
  have hin : ∀ {x : KRow E}, x.v.ownBlock = some q ∨ x.m.ownBlock = some q → q ∈ x.blocks := by
   intro x hx
   unfold KRow.blocks
   rcases hx with h | h <;> simp [h]
  cases i with
  | zero =>
   obtain rfl : a = r := by simpa using hr
   cases k with
   | zero =>
    obtain rfl : a = r' := by simpa using hr'
    refine ⟨rfl, fun hm => ?_⟩
    unfold KRow.blocks at h1
    rw [hq, hm] at h1
    simp at h1
   | succ k =>
    have hr2 : L[k]? = some r' := by simpa using hr'
    exact absurd rfl (h3 q (hin (.inl hq)) q (mem_rowBlocks (List.mem_of_getElem? hr2) hq'))
  | succ i =>
   have hr1 : L[i]? = some r := by simpa using hr
   cases k with
   | zero =>
    obtain rfl : a = r' := by simpa using hr'
    exact absurd rfl (h3 q (hin hq') q (mem_rowBlocks (List.mem_of_getElem? hr1) (.inl hq)))
   | succ k =>
    have hr2 : L[k]? = some r' := by simpa using hr'
    obtain ⟨h4, h5⟩ := ih h2 hr1 hr2 hq hq'
    exact ⟨by omega, h5⟩
theorem set_map {f : KRow E → Value} {L : List (KRow E)} {i : Nat} {r r' : KRow E} (hr : L[i]? = some r) (he : f r' = f r) : (L.set i r').map f = L.map f := by
 apply List.ext_getElem?
 intro k
 rw [List.getElem?_map, List.getElem?_map, List.getElem?_set]
 by_cases hik : i = k
 ·subst hik
  rw [if_pos rfl, hr]
  have := (List.getElem?_eq_some_iff.1 hr).1
  simp [this, he]
 ·rw [if_neg hik]
/-- An element stored into a kept list. -/
theorem KAt.store {g : Nat} {tv wv : Value} {L : List (KRow E)} {w : World} (h : KAt ec sz te tr off g bc tv wv L w) (hs : ∀ x, (ec x).length = sz) {i : Nat} {r : KRow E} (hr : L[i]? = some r) {q c : Nat} (hv : r.v = .slice (some ⟨q, 0, none⟩) r.ss.length c) (j : Nat) (hj : j < r.ss.length) (x : E) :
  KAt ec sz te tr off g bc tv wv (L.set i ⟨r.v, r.ss.set j x, r.m, r.mm⟩) (w.setCells q (j * sz) (ec x)) := by
 have hq : r.v.ownBlock = some q := by rw [hv]; rfl
 have hm := List.mem_of_getElem? hr
 have hin : q ∈ rowBlocks L := mem_rowBlocks hm (.inl hq)
 have fin : ∀ k, k ≠ q → (w.setCells q (j * sz) (ec x)).heap[k]? = w.heap[k]? := fun k hk => setCells_other q _ _ _ _ hk
 have ev : (L.set i ⟨r.v, r.ss.set j x, r.m, r.mm⟩).map KRow.v = L.map KRow.v := set_map hr rfl
 have em : (L.set i ⟨r.v, r.ss.set j x, r.m, r.mm⟩).map KRow.m = L.map KRow.m := set_map hr rfl
 have hgq : g ≠ q := fun e => h.sep.gR (e ▸ hin)
 refine ⟨(fin g hgq).trans h.cells, h.siz, h.c0, h.c1, ?_, ?_, h.qt.keep (fun k hk => fin k (fun e => h.sep.TR k hk (e ▸ hin))), h.qw.keep (fun k hk => fin k (fun e => h.sep.WR k hk (e ▸ hin))), ?_, by rw [List.length_set]; exact h.len, by rw [rowBlocks_of ev em]; exact h.sep⟩
 ·rw [ev, List.length_set]
  exact own_keep' h.ot (fun k hk => fin k (fun e => h.sep.TR k hk (e ▸ hin)))
 ·rw [em, List.length_set]
  exact own_keep' h.ow (fun k hk => fin k (fun e => h.sep.WR k hk (e ▸ hin)))
 ·intro r' hr'
  obtain ⟨k, hk, e⟩ := List.getElem_of_mem hr'
  have hk' : (L.set i ⟨r.v, r.ss.set j x, r.m, r.mm⟩)[k]? = some r' := by rw [List.getElem?_eq_getElem hk, e]
  rw [List.getElem?_set] at hk'
  by_cases hik : i = k
  ·subst hik
   have hil := (List.getElem?_eq_some_iff.1 hr).1
   simp only [if_true, hil] at hk'
   injection hk' with hk'
   subst hk'
   have h0 := h.rows r hm
   have hov := h0.v
   rw [hv] at hov
   have hmq := (nodup_block h.sep.nd hr hr hq (.inl hq)).2
   refine ⟨?_, own_keep' h0.m (fun k hk => fin k (fun e => hmq (e ▸ hk))), by rw [List.length_set]; exact h0.lv, h0.lm⟩
   have := stored_cells (ec x) (j * sz) _ w hov
   show World.ownsRow _ _ _ _ r.v (r.ss.set j x).length (cs ec (r.ss.set j x))
   rw [hv, List.length_set, cs_set hs _ _ _ hj]
   exact this
  ·rw [if_neg hik] at hk'
   have h0 := h.rows r' (List.mem_of_getElem? hk')
   refine ⟨own_keep' h0.v (fun k' hk2 => fin k' (fun e => hik (nodup_block h.sep.nd hr hk' hq (.inl (e ▸ hk2))).1)), own_keep' h0.m (fun k' hk2 => fin k' (fun e => hik (nodup_block h.sep.nd hr hk' hq (.inr (e ▸ hk2))).1)), h0.lv, h0.lm⟩
theorem Mv.then_below' {S S' : List Nat} {w w' w'' : World} (h : Mv S S' w w') (hb : Below w'.heap.size w' w'') : Mv S S' w w'' := h.trans (Mv.of_new hb fun _ h => .inl h)
theorem set_mid (a d : List E) (y x : E) : (a ++ y :: d).set a.length x = a ++ [x] ++ d := by
 rw [List.set_append_right _ _ (Nat.le_refl _), Nat.sub_self]
 simp
theorem marks_set (i jn : Nat) (ss : List E) (h : jn < ss.length) : (marks mk i 0 jn ++ ss.drop jn).set jn (mk (nm i jn)) = marks mk i 0 (jn + 1) ++ ss.drop (jn + 1) := by
 have h1 := drop_cons (List.getElem?_eq_getElem h)
 have h2 := set_mid (marks mk i 0 jn) (ss.drop (jn + 1)) ss[jn] (mk (nm i jn))
 rw [marks_len] at h2
 rw [h1, h2, marks_succ, Nat.zero_add]
theorem markN_at (mk : ByteArray → E) (k : Nat) (L : List (KRow E)) {r : KRow E} (hr : L[k]? = some r) : (markN mk k L)[k]? = some r := by rw [markN_get, hr]; simp
theorem markN_step (mk : ByteArray → E) (k : Nat) (L : List (KRow E)) {r : KRow E} (hr : L[k]? = some r) : (markN mk k L).set k (markR mk k r) = markN mk (k + 1) L := by
 apply List.ext_getElem?
 intro j
 rw [List.getElem?_set, markN_get, markN_get]
 have hk := (List.getElem?_eq_some_iff.1 hr).1
 by_cases hj : k = j
 ·subst hj
  rw [if_pos rfl, if_pos (by rw [markN_len]; exact hk), hr]
  simp
 ·rw [if_neg hj]
  cases L[j]? with
  | none => rfl
  | some x =>
   simp only [Option.map_some]
   by_cases h1 : j < k
   ·rw [if_pos h1, if_pos (by omega)]
   ·rw [if_neg h1, if_neg (by omega)]
theorem set_same (k : Nat) (L : List (KRow E)) {r : KRow E} (hr : L[k]? = some r) : L.set k r = L := by
 apply List.ext_getElem?
 intro j
 rw [List.getElem?_set]
 by_cases hj : k = j
 ·subst hj
  have hk := (List.getElem?_eq_some_iff.1 hr).1
  rw [if_pos rfl, if_pos hk, hr]
 ·rw [if_neg hj]
/-- The first part of a row stays held where the whole row stays held. -/
theorem own_first {w w' : World} {base base0 : Nat} {e : TypeId} {size : Nat} {l v : Value} {n0 n1 : Nat} {xs0 xs1 : List Value} (hl : w.ownsRow base e size l n1 xs1) (hv : w.ownsRow base0 e size v n0 xs0)
  (hb : l.ownBlock = v.ownBlock) (hl' : w'.ownsRow base e size l n1 xs1) (hn : n0 ≤ n1) : w'.ownsRow base0 e size v n0 xs0 := by
 refine ⟨hv.1, ?_⟩
 rcases hv.2 with h | ⟨g, cap, cur, rfl, hbg, hg, hnc, hcm, hcs, ht⟩
 ·exact .inl h
 ·refine .inr ?_
  rcases hl.2 with ⟨rfl, _⟩ | ⟨g1, cap1, cur1, rfl, _, hg1, _, _, hcs1, ht1⟩
  ·simp [Value.ownBlock] at hb
  ·have e1 : g1 = g := by simpa [Value.ownBlock] using hb
   subst e1
   rw [hg] at hg1
   injection hg1 with hg1
   injection hg1 with e2 _ _
   subst e2
   rcases hl'.2 with ⟨h, _⟩ | ⟨g2, cap2, cur2, h, _, hg2, _, _, hcs2, ht2⟩
   ·cases h
   ·injection h with h1 h2 h3
    injection h1 with h1
    injection h1 with h1 _ _
    subst h1 h3
    have hx : xs0 = xs1.take (n0 * size) := by
     rw [← ht, ← ht1, List.take_take, Nat.min_eq_left (Nat.mul_le_mul_right _ hn)]
    refine ⟨g1, cap, cur2, rfl, hbg, hg2, hnc, hcm, ?_, ?_⟩
    ·rw [hcs2, ← hcs1, hcs]
    ·rw [hx, ← ht2, List.take_take, Nat.min_eq_left (Nat.mul_le_mul_right _ hn)]
/-- Rows of different kinds are never one block. -/
theorem own_kinds {w : World} {base base' : Nat} {e e' : TypeId} {size size' n n' : Nat} {v v' : Value} {xs xs' : List Value} (h : w.ownsRow base e size v n xs) (h' : w.ownsRow base' e' size' v' n' xs') (hne : e ≠ e') {q : Nat} (hq : v.ownBlock = some q) : v'.ownBlock ≠ some q := by
 rcases h.2 with ⟨rfl, _⟩ | ⟨g, cap, cur, rfl, _, hh, _⟩
 ·simp [Value.ownBlock] at hq
 ·have e1 : g = q := by simpa [Value.ownBlock] using hq
  subst e1
  exact own_blk_ne h' (t := e) (cs := cur) hh (Ne.symm hne)
/-- The lists that were grown: value and what it holds. -/
structure Grown (ec : E → List Value) (sz : Nat) (te : TypeId) (mk : ByteArray → E) (L : List (KRow E)) (G : List (Value × List E)) (B : Nat) (w : World) : Prop where
 own : ∀ r ∈ G, w.ownsRow 0 te sz r.1 r.2.length (cs ec r.2)
 len : ∀ r ∈ G, r.2.length ≤ 100000000
 mark : ∀ (j : Nat) (r : Value × List E), G[j]? = some r → r.2 = marks mk j 0 r.2.length
 at_ : ∀ (j : Nat) (r : Value × List E), G[j]? = some r → ∀ q : Nat, r.1.ownBlock = some q → (∃ t : KRow E, L[j]? = some t ∧ t.v.ownBlock = some q) ∨ B ≤ q
theorem Grown.keep {L : List (KRow E)} {G : List (Value × List E)} {B : Nat} {w w' : World} (h : Grown ec sz te mk L G B w) (hk : ∀ (j : Nat) (r : Value × List E), G[j]? = some r → ∀ q : Nat, r.1.ownBlock = some q → w'.heap[q]? = w.heap[q]?) : Grown ec sz te mk L G B w' :=
 ⟨fun r hr => by
  obtain ⟨j, hj⟩ := List.getElem?_of_mem hr
  exact own_keep' (h.own r hr) (hk j r hj), h.len, h.mark, h.at_⟩
theorem Grown.snoc {L : List (KRow E)} {G : List (Value × List E)} {B : Nat} {w : World} (h : Grown ec sz te mk L G B w) (l : Value) (m : Nat) (ho : w.ownsRow 0 te sz l m (cs ec (marks mk G.length 0 m))) (hm : m ≤ 100000000)
  (ha : ∀ q, l.ownBlock = some q → (∃ t, L[G.length]? = some t ∧ t.v.ownBlock = some q) ∨ B ≤ q) : Grown ec sz te mk L (G ++ [(l, marks mk G.length 0 m)]) B w := by
 refine ⟨fun r hr => ?_, fun r hr => ?_, fun j r hr => ?_, fun j r hr => ?_⟩
 ·rcases List.mem_append.1 hr with hr | hr
  ·exact h.own r hr
  ·obtain rfl : r = (l, marks mk G.length 0 m) := by simpa using hr
   simpa [marks_len] using ho
 ·rcases List.mem_append.1 hr with hr | hr
  ·exact h.len r hr
  ·obtain rfl : r = (l, marks mk G.length 0 m) := by simpa using hr
   simpa [marks_len] using hm
 all_goals
  rw [List.getElem?_append] at hr
  split at hr
  ·first | exact h.mark j r hr | exact h.at_ j r hr
  ·have hj : j = G.length := by
    rcases Nat.lt_or_ge (j - G.length) 1 with h1 | h1
    ·omega
    ·rw [List.getElem?_eq_none (by simpa using h1)] at hr; cases hr
   subst hj
   obtain rfl : (l, marks mk G.length 0 m) = r := by simpa using hr
   first | (simp [marks_len]; done) | exact ha
/-- A step of a list's growth: what the list held first, it holds still. -/
structure GrowAt (ec : E → List Value) (sz : Nat) (te : TypeId) (mk : ByteArray → E) (v l : Value) (ss : List E) (k n B : Nat) (w : World) : Prop where
 ov : w.ownsRow 0 te sz v ss.length (cs ec ss)
 ol : w.ownsRow 0 te sz l n (cs ec (marks mk k 0 n))
 le : ss.length ≤ n
 at_ : l.ownBlock = v.ownBlock ∨ ∀ q, l.ownBlock = some q → B ≤ q
theorem GrowAt.step {v l l' : Value} {ss : List E} {k n m B : Nat} {w w' : World} (h : GrowAt ec sz te mk v l ss k n B w) (ho : w'.ownsRow 0 te sz l' (n + m) (cs ec (marks mk k 0 n) ++ cs ec (marks mk k n m))) (hk : w'.ownsRow 0 te sz l n (cs ec (marks mk k 0 n)))
  (hg : w.grownBy w' l.ownBlock) (hl : l'.ownBlock = l.ownBlock ∨ l'.ownBlock = some w.heap.size) (hB : B ≤ w.heap.size) : GrowAt ec sz te mk v l' ss k (n + m) B w' := by
 refine ⟨?_, ?_, by have := h.le; omega, ?_⟩
 ·by_cases e : l.ownBlock = v.ownBlock
  ·exact own_first h.ol h.ov e hk h.le
  ·exact own_grown h.ov hg (fun k' hk' e' => e (e'.trans hk'.symm))
 ·rw [marks_add, cs_append]; exact ho
 ·rcases hl with e | e
  ·rw [e]; exact h.at_
  ·refine .inr fun q hq => ?_
   rw [e] at hq
   injection hq with hq
   omega
theorem GrowAt.below {v l : Value} {ss : List E} {k n B : Nat} {w w' : World} (h : GrowAt ec sz te mk v l ss k n B w) (hb : Below w.heap.size w w') : GrowAt ec sz te mk v l ss k n B w' :=
 ⟨own_below h.ov hb (fun k hk => (h.ov.lt k hk).2), own_below h.ol hb (fun k hk => (h.ol.lt k hk).2), h.le, h.at_⟩
/-- The book beside a list's growth. -/
theorem KAt.grow {g : Nat} {tv wv : Value} {L : List (KRow E)} {w w' : World} (h : KAt ec sz te tr off g bc tv wv L w) {k : Nat} {t : KRow E} (ht : L[k]? = some t) (hk : ∀ q, q < w.heap.size → t.v.ownBlock ≠ some q → w'.heap[q]? = w.heap[q]?)
  (ho : w'.ownsRow 0 te sz t.v t.ss.length (cs ec t.ss)) : KAt ec sz te tr off g bc tv wv L w' := by
 have hm := List.mem_of_getElem? ht
 have hin : ∀ q, t.v.ownBlock = some q → q ∈ rowBlocks L := fun q hq => mem_rowBlocks hm (.inl hq)
 have hlt := h.there
 refine ⟨(hk g (hlt g (mem_bk.2 (.inl rfl))) (fun e => h.sep.gR (hin g e))).trans h.cells, h.siz, h.c0, h.c1, own_keep' h.ot (fun q hq => hk q (h.ot.lt q hq).2 (fun e => h.sep.TR q hq (hin q e))), own_keep' h.ow (fun q hq => hk q (h.ow.lt q hq).2 (fun e => h.sep.WR q hq (hin q e))), h.qt.keep (fun q hq => hk q (h.ot.lt q hq).2 (fun e => h.sep.TR q hq (hin q e))), h.qw.keep (fun q hq => hk q (h.ow.lt q hq).2 (fun e => h.sep.WR q hq (hin q e))), ?_, h.len, h.sep⟩
 intro r hr
 obtain ⟨j, hj⟩ := List.getElem?_of_mem hr
 have h0 := h.rows r hr
 refine ⟨?_, own_keep' h0.m (fun q hq => hk q (h0.m.lt q hq).2 (fun e => (nodup_block h.sep.nd ht hj e (.inr hq)).2 hq)), h0.lv, h0.lm⟩
 by_cases hjk : k = j
 ·subst hjk
  obtain rfl : t = r := by rw [ht] at hj; injection hj
  exact ho
 ·exact own_keep' h0.v (fun q hq => hk q (h0.v.lt q hq).2 (fun e => hjk (nodup_block h.sep.nd ht hj e (.inl hq)).1))
/-- The grown lists beside the next list's growth. -/
theorem Grown.grow {g : Nat} {tv wv : Value} {L : List (KRow E)} {G : List (Value × List E)} {B : Nat} {w w' : World} (h : KAt ec sz te tr off g bc tv wv L w) (hG : Grown ec sz te mk L G B w) (hB : ∀ q ∈ bkBlocks g tv wv L, q < B) {t : KRow E} (ht : L[G.length]? = some t)
  (hk : ∀ q, q < w.heap.size → t.v.ownBlock ≠ some q → w'.heap[q]? = w.heap[q]?) : Grown ec sz te mk L G B w' :=
 hG.keep fun j r hr q hq => hk q ((hG.own r (List.mem_of_getElem? hr)).lt q hq).2 (fun e => by
  have hj : j < G.length := (List.getElem?_eq_some_iff.1 hr).1
  rcases hG.at_ j r hr q hq with ⟨t', ht', e'⟩ | hq'
  ·have := (nodup_block h.sep.nd ht ht' e (.inl e')).1
   omega
  ·have := hB q (mem_bk.2 (.inr (.inr (.inr (mem_rowBlocks (List.mem_of_getElem? ht) (.inl e))))))
   omega)
theorem Mv.step {S : List Nat} {w w1 w2 : World} {row : Option Nat} (h : Mv S S w w1) (hg : w1.grownBy w2 row) (hrow : ∀ k, row = some k → k ∈ S ∨ w.heap.size ≤ k) : Mv S S w w2 := by
 have hs := h.size
 refine ⟨hg.os.trans h.os, hg.tape.trans h.tape, hg.output.trans h.output, Nat.le_trans hs hg.size, fun k hk hn => ?_, fun _ h => .inl h⟩
 rw [hg.block k (by omega) (fun e => (hrow k e.symm).elim hn (by omega))]
 exact h.block k hk hn
theorem Mv.then_ {S : List Nat} {w w1 w2 : World} (h : Mv S S w w1) (hb : Below w1.heap.size w1 w2) : Mv S S w w2 := Mv.then_below' h hb
theorem GrowAt.first {g : Nat} {tv wv : Value} {L : List (KRow E)} {w : World} (h : KAt ec sz te tr off g bc tv wv L w) {k : Nat} {r : KRow E} (hr : L[k]? = some r) (hm : r.ss = marks mk k 0 r.ss.length) : GrowAt ec sz te mk r.v r.v r.ss k r.ss.length w.heap.size w := by
 have h0 := h.rows r (List.mem_of_getElem? hr)
 refine ⟨h0.v, ?_, Nat.le_refl _, .inl rfl⟩
 rw [← hm]
 exact h0.v
/-- Behind one list's growth and its place in the row of grown lists. -/
theorem grown_next {g : Nat} {tv wv o o' l : Value} {L : List (KRow E)} {G : List (Value × List E)} {w wo w1 w2 : World} {ob : Obj} {k p : Nat} {r : KRow E}
  (hb : KAt ec sz te tr off g bc tv wv L wo) (hG : Grown ec sz te mk L G w.heap.size wo) (hlt : ∀ q ∈ bkBlocks g tv wv L, q < w.heap.size) (hk : G.length = k) (hr : L[k]? = some r) (hM : Mv (bkBlocks g tv wv L) (bkBlocks g tv wv L) w wo)
  (ho : wo.ownsRow w.heap.size tr 1 o k (G.map Prod.fst))
  (h1 : Mv r.v.ownBlock.toList r.v.ownBlock.toList wo w1) (ha : GrowAt ec sz te mk r.v l r.ss k p wo.heap.size w1) (hp : p ≤ 100000000)
  (hg : (w1.alloc ob).grownBy w2 o.ownBlock) (hne : te ≠ tr) (ho' : w2.ownsRow w.heap.size tr 1 o' (k + 1) (G.map Prod.fst ++ [l])) :
  (G ++ [(l, marks mk k 0 p)]).length = k + 1 ∧ w2.ownsRow w.heap.size tr 1 o' (k + 1) ((G ++ [(l, marks mk k 0 p)]).map Prod.fst) ∧ Grown ec sz te mk L (G ++ [(l, marks mk k 0 p)]) w.heap.size w2 ∧ KAt ec sz te tr off g bc tv wv L w2 ∧ Mv (bkBlocks g tv wv L) (bkBlocks g tv wv L) w w2 := by
 subst hk
 have hk1 : ∀ q, q < wo.heap.size → r.v.ownBlock ≠ some q → w1.heap[q]? = wo.heap[q]? := fun q hq hn => h1.block q hq (by simpa using hn)
 have hb1 := hb.grow hr hk1 ha.ov
 have hG1 := Grown.grow hb hG hlt hr hk1
 have hz := h1.size
 have hz0 := hM.size
 have hin : ∀ q, r.v.ownBlock = some q → q ∈ bkBlocks g tv wv L := fun q hq => mem_bk.2 (.inr (.inr (.inr (mem_rowBlocks (List.mem_of_getElem? hr) (.inl hq)))))
 have o1 : w1.ownsRow w.heap.size tr 1 o G.length (G.map Prod.fst) := own_keep' ho (fun q hq => hk1 q (ho.lt q hq).2 (fun e => by
  have h2 := hlt q (hin q e)
  have h3 := (ho.lt q hq).1
  omega))
 have hG2 := hG1.snoc l p ha.ol hp (fun q hq => by
  rcases ha.at_ with e | e
  ·exact .inl ⟨r, hr, by rw [← e]; exact hq⟩
  ·exact .inr (by have := e q hq; omega))
 have keep : ∀ q, q < w1.heap.size → o.ownBlock ≠ some q → w2.heap[q]? = w1.heap[q]? := fun q hq hn => (hg.block q (by rw [size_alloc_one]; omega) (fun e => hn e.symm)).trans (Below.heap_alloc w1 ob q hq)
 refine ⟨by simp, by rw [List.map_append]; exact ho', ?_, ?_, ?_⟩
 ·exact hG2.keep fun j t hj q hq => by
   have hto := hG2.own t (List.mem_of_getElem? hj)
   exact keep q (hto.lt q hq).2 (own_kinds hto o1 hne hq)
 ·exact hb1.keep fun q hq => keep q (hb1.there q hq) (fun e => by
   have h2 := hlt q hq
   have h3 := (o1.lt q e).1
   omega)
 ·refine (Mv.step (w1 := w1.alloc ob) ?_ hg (fun q hq => .inr (o1.lt q hq).1))
  refine Mv.alloc ?_ _
  refine ⟨h1.os.trans hM.os, h1.tape.trans hM.tape, h1.output.trans hM.output, by omega, fun q hq hn => ?_, fun _ h => .inl h⟩
  rw [hk1 q (by omega) (fun e => hn (hin q e))]
  exact hM.block q hq hn
theorem markN_all {L : List (KRow E)} {k : Nat} {r : KRow E} (h : (markN mk L.length L)[k]? = some r) : r.ss = marks mk k 0 r.ss.length := by
 rw [markN_get] at h
 cases hk : L[k]? with
 | none => rw [hk] at h; cases h
 | some t =>
  rw [hk] at h
  have hlt := (List.getElem?_eq_some_iff.1 hk).1
  simp only [Option.map_some, if_pos hlt, Option.some.injEq] at h
  subst h
  simp [markR, marks_len]
theorem markN_small {L : List (KRow E)} {n : Nat} (h : ∀ r ∈ L, r.ss.length ≤ n) : ∀ r ∈ markN mk L.length L, r.ss.length ≤ n := by
 intro r hr
 obtain ⟨k, hk⟩ := List.getElem?_of_mem hr
 rw [markN_get] at hk
 cases ht : L[k]? with
 | none => rw [ht] at hk; cases hk
 | some t =>
  rw [ht] at hk
  have hlt := (List.getElem?_eq_some_iff.1 ht).1
  simp only [Option.map_some, if_pos hlt, Option.some.injEq] at hk
  subst hk
  simpa [markR, marks_len] using h t (List.mem_of_getElem? ht)
def pairsOf (L : List (KRow E)) : List (Value × List E) := L.map fun r => (r.v, r.ss)
end
end Kb
end Go.Proofs.YtnpkplegeddhcaaGreat
