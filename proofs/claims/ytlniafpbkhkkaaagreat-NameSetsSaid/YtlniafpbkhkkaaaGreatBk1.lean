/-
  The book's name, markTexts, copyTexts as contracts; an append that tells what stays.
  Conditions: each lemma's own premises.
-/
import Derived.Test.YtlniafpbkhkkaaaGreatAid
import Derived.Test.YtlniafpbkhkkaaaGreatBytes
import Derived.Test.YtlniafpbkhkkaaaGreatMv
import Derived.Deep.QuietTactic
import Derived.BigQuiet
import Derived.Lib.Hide
import Derived.LoopN
import Derived.WalkKit
import Derived.Test.YtlniafpbkhkkaaaGreatProg
namespace Go.Proofs.YtlniafpbkhkkaaaGreat
open Go.RowKit

theorem bk_info_str : (Tryz.prog.info? 9).map (fun i => (i.zero, i.size, i.bytes)) = some (some (.string ⟨#[]⟩), 1, 16) := by kernel_rfl
/-- An append: what the row held ahead of it, it holds still. -/
theorem run_append_keep {P : Program} (w : World) (base : Nat) (t ty e : TypeId) (i : TypeInfo) (z : Value) (size bytes : Nat) (ht : P.underlying t = some (.slice e)) (hi : P.info? e = some i) (hz : i.zero = some z)
    (hsize : i.size = size) (hby : i.bytes = bytes) (hzs : z.cells.size = size) (hsz : 0 < size)
    (v : Value) (n : Nat) (xs : List Value) (hown : w.ownsRow base e size v n xs)
    (B : Nat) (A : Option Addr) (m c : Nat) (news : List Value) (hr : Reads w B size A m news) (h1 : ∀ u ∈ news, u.oneCell' = true)
    (h63 : n + m ≤ maxLen) (hbytes : (n + m) * bytes ≤ 140737488355328) (hbase : base ≤ w.heap.size) :
    ∃ v' w', (Builtin.append_ #[t, t] ty #[v, .slice A m c]).run P w = .ok v' w' ∧ w'.ownsRow base e size v' (n + m) (xs ++ news) ∧ w'.ownsRow base e size v n xs ∧ w.grownBy w' v.ownBlock ∧
      (v'.ownBlock = v.ownBlock ∨ v'.ownBlock = some w.heap.size) := by
  obtain ⟨v', w', hrun, h2, h3, h4⟩ := run_append_any (P := P) w base t ty e i z size bytes ht hi hz hsize hby hzs hsz v n xs hown B A m c news hr h1 h63 hbytes hbase
  refine ⟨v', w', hrun, h2, ⟨hown.1, ?_⟩, h3, h4⟩
  rcases hown.2 with hnil | ⟨g, cap, cur, rfl, hbg, hg, hnc, hcm, hcs, htake⟩
  · exact .inl hnil
  · refine .inr ?_
    by_cases hroom : n + m ≤ cap
    · rcases A with _ | ad
      · have hm : m = 0 := by
          rcases Nat.eq_zero_or_pos m with h0 | h0
          · exact h0
          · obtain ⟨ad, h, _⟩ := hr.2 h0
            cases h
        subst hm
        have hr2 := run_append_of_nil (P := P) w base t ty e i size ht hi _ n xs hown c
        rw [hrun] at hr2
        injection hr2 with e1 e2
        subst e1 e2
        exact ⟨g, cap, cur, rfl, hbg, hg, hnc, hcm, hcs, htake⟩
      · have hcells : ∀ j u, news[j]? = some u → w.cell? (ad.add j) = some u := by
          intro j u hu
          rcases Nat.eq_zero_or_pos m with h0 | h0
          · subst h0
            have hn : news = [] := List.eq_nil_of_length_eq_zero (by simpa using hr.1)
            subst hn
            simp at hu
          · obtain ⟨ad', h, _, hc⟩ := hr.2 h0
            injection h with h
            subst h
            exact hc j u hu
        have hfit : n * i.size + news.length ≤ cur.size := by rw [hr.1, hcs, hsize, ← Nat.add_mul]; exact Nat.mul_le_mul_right _ hroom
        have hr2 := run_append_room (P := P) w t ty e i ht hi g n cap cur hg ad m c news (by rw [hr.1, hsize]) hcells h1 hroom hfit
        rw [hrun] at hr2
        injection hr2 with e1 e2
        subst e1 e2
        refine ⟨g, cap, _, rfl, hbg, setRow_heap w g cur _ e _ hg, hnc, hcm, ?_, ?_⟩
        · simp only [List.size_toArray, List.length_append, List.length_take, List.length_drop, Array.length_toList]
          rw [← hcs]
          omega
        · rw [hsize]
          have hl : (cur.toList.take (n * size)).length = n * size := by rw [htake]; exact hown.1
          rw [List.append_assoc, List.take_append_of_le_length (by rw [hl]; exact Nat.le_refl _), List.take_of_length_le (by rw [hl]; exact Nat.le_refl _)]
          exact htake
    · have hgrow : w'.heap[g]? = w.heap[g]? := by
        rcases A with _ | ad
        · have hm : m = 0 := by
            rcases Nat.eq_zero_or_pos m with h0 | h0
            · exact h0
            · obtain ⟨ad, h, _⟩ := hr.2 h0
              cases h
          omega
        · have hcells : ∀ j u, news[j]? = some u → w.cell? (ad.add j) = some u := by
            intro j u hu
            obtain ⟨ad', h, _, hc⟩ := hr.2 (by omega)
            injection h with h
            subst h
            exact hc j u hu
          have hsmall : n + m ≤ 9223372036854775807 := by simp only [maxLen] at h63; omega
          have hr2 := run_append_grow (P := P) w t ty e i z ht hi hz ⟨g, 0, none⟩ n cap xs (by rw [hsize]; exact hown.1) (hown.cells (g := g) rfl) ad m c news (by rw [hr.1, hsize]) hcells (by omega) (by omega) (by rw [hby]; exact growslice_fits (by omega) hbytes)
          rw [hrun] at hr2
          injection hr2 with e1 e2
          subst e2
          exact Below.heap_alloc w.drew _ g (Array.getElem?_eq_some_iff.1 hg).1
      exact ⟨g, cap, cur, rfl, hbg, hgrow.trans hg, hnc, hcm, hcs, htake⟩
/-- The operation. -/
theorem wpList_append_keep {P : Program} {w : World} {ops : Array Oper} {rest : List Oper} {o : Oper} {a : Act} {Q : Exit → Act → World → Prop} (hgd : o.guard = none) (s x : Operand) (t : TypeId)
    (ho : o.op = .call { callee := .builtin .append, args := #[s, x], argTypes := #[t, t] })
    (base : Nat) (e : TypeId) (i : TypeInfo) (z : Value) (size bytes : Nat) (ht : P.underlying t = some (.slice e)) (hi : P.info? e = some i) (hz : i.zero = some z)
    (hsize : i.size = size) (hby : i.bytes = bytes) (hzs : z.cells.size = size) (hsz : 0 < size)
    (v : Value) (n : Nat) (xs : List Value) (hs : a.eval s = v) (hown : w.ownsRow base e size v n xs)
    (B : Nat) (A : Option Addr) (m c : Nat) (news : List Value) (hx : a.eval x = .slice A m c) (hr : Reads w B size A m news) (h1 : ∀ u ∈ news, u.oneCell' = true)
    (h63 : n + m ≤ maxLen) (hbytes : (n + m) * bytes ≤ 140737488355328) (hbase : base ≤ w.heap.size)
    (h : ∀ v' w', w'.ownsRow base e size v' (n + m) (xs ++ news) → w'.ownsRow base e size v n xs → w.grownBy w' v.ownBlock → (v'.ownBlock = v.ownBlock ∨ v'.ownBlock = some w.heap.size) → wpList P ops Q rest (a.put o.dst v') w') : wpList P ops Q (o :: rest) a w := by
  refine wpList_plain hgd fun _ hK => ?_
  obtain ⟨v', w', hrun, h2, h3, h4, h5⟩ := run_append_keep (P := P) w base t o.type e i z size bytes ht hi hz hsize hby hzs hsz v n xs hown B A m c news hr h1 h63 hbytes hbase
  unfold Oper.wp execOp
  simp only [ho, resolve, invoke, builtin, Sem.run_bind, Sem.run_pure, Result.andThen_ok, List.map_toArray, List.map_cons, List.map_nil, hs, hx, hrun]
  exact hK _ _ (h v' w' h2 h3 h4 h5)
/-- The mark of list i at place k. -/
def nmL (i k : Nat) : List UInt8 := [109, UInt8.ofNat (65 + i % 26), UInt8.ofNat (65 + i / 26 % 26), UInt8.ofNat (48 + k % 10), UInt8.ofNat (48 + k / 10 % 10), UInt8.ofNat (48 + k / 100 % 10)]
def nm (i k : Nat) : ByteArray := ⟨(nmL i k).toArray⟩
theorem u8_small {x : Nat} (h : x < 256) : (UInt8.ofNat x).toNat = x := by rw [UInt8.toNat_ofNat']; omega
set_option maxHeartbeats 1000000 in
set_option maxRecDepth 100000 in
theorem name_any (i k : Nat) (hi : i ≤ 1000000000) (hk : k ≤ 1000000000000) (w : World) :
    Calls Tryz.prog 142 #[.int .i64 i, .int .i64 k] w fun e w' => e = .returned (.string (nm i k)) ∧ Below w.heap.size w w' := by
  obtain ⟨a1, h1⟩ : ∃ a1 : Nat, a1 = 65 + i % 26 := ⟨_, rfl⟩
  obtain ⟨a2, h2⟩ : ∃ a2 : Nat, a2 = 65 + i / 26 % 26 := ⟨_, rfl⟩
  obtain ⟨a3, h3⟩ : ∃ a3 : Nat, a3 = 48 + k % 10 := ⟨_, rfl⟩
  obtain ⟨a4, h4⟩ : ∃ a4 : Nat, a4 = 48 + k / 10 % 10 := ⟨_, rfl⟩
  obtain ⟨a5, h5⟩ : ∃ a5 : Nat, a5 = 48 + k / 100 % 10 := ⟨_, rfl⟩
  have e1 : (65 : Int) + (i : Int) % 26 = (a1 : Int) := by omega
  have e2 : (65 : Int) + (i : Int) / 26 % 26 = (a2 : Int) := by omega
  have e3 : (48 : Int) + (k : Int) % 10 = (a3 : Int) := by omega
  have e4 : (48 : Int) + (k : Int) / 10 % 10 = (a4 : Int) := by omega
  have e5 : (48 : Int) + (k : Int) / 100 % 10 = (a5 : Int) := by omega
  have l1 : a1 < 256 := by omega
  have l2 : a2 < 256 := by omega
  have l3 : a3 < 256 := by omega
  have l4 : a4 < 256 := by omega
  have l5 : a5 < 256 := by omega
  have HN : Hid (nm i k = ⟨[109, UInt8.ofNat a1, UInt8.ofNat a2, UInt8.ofNat a3, UInt8.ofNat a4, UInt8.ofNat a5].toArray⟩) := by show _ = _; rw [h1, h2, h3, h4, h5]; rfl
  have HC : Hid (∀ (t : TypeId), (convert 196 9 (.slice (some ⟨w.heap.size, 0, none⟩) 6 6)).run Tryz.prog (w.alloc (.cells #[.int .u8 109, .int .u8 (a1 : Int), .int .u8 (a2 : Int), .int .u8 (a3 : Int), .int .u8 (a4 : Int), .int .u8 (a5 : Int)] t)) = .ok (.string ⟨[109, UInt8.ofNat a1, UInt8.ofNat a2, UInt8.ofNat a3, UInt8.ofNat a4, UInt8.ofNat a5].toArray⟩) (w.alloc (.cells #[.int .u8 109, .int .u8 (a1 : Int), .int .u8 (a2 : Int), .int .u8 (a3 : Int), .int .u8 (a4 : Int), .int .u8 (a5 : Int)] t))) := by
    intro t
    have hb : Lib.byteCells [109, UInt8.ofNat a1, UInt8.ofNat a2, UInt8.ofNat a3, UInt8.ofNat a4, UInt8.ofNat a5] = [.int .u8 109, .int .u8 (a1 : Int), .int .u8 (a2 : Int), .int .u8 (a3 : Int), .int .u8 (a4 : Int), .int .u8 (a5 : Int)] := by
      simp only [Lib.byteCells, List.map_cons, List.map_nil, u8_small l1, u8_small l2, u8_small l3, u8_small l4, u8_small l5]
      rfl
    exact run_bytes_string (B := w.heap.size + 1) (P := Tryz.prog) _ Tryz.underlying196 Tryz.underlying5 Tryz.underlying9 rfl (by rw [hb]; exact reads_newV w _ t _ rfl rfl rfl (Nat.lt_succ_self _))
  have hc0 := HC.out 5
  have m1 : (a1 : Int) % 256 = (a1 : Int) := by omega
  have m2 : (a2 : Int) % 256 = (a2 : Int) := by omega
  have m3 : (a3 : Int) % 256 = (a3 : Int) := by omega
  have m4 : (a4 : Int) % 256 = (a4 : Int) := by omega
  have m5 : (a5 : Int) % 256 = (a5 : Int) := by omega
  clear h1 h2 h3 h4 h5 l1 l2 l3 l4 l5 HC
  go_enter Tryz.func142, Tryz.ntmps142
  go_wp2
  go_ret
  exact ⟨ret_string HN.out.symm, (Below.refl _ _).alloc (Nat.le_refl _) _⟩
/-- The marks of list i from a place on. -/
def marks (i fr n : Nat) : List ByteArray := (List.range n).map fun j => nm i (fr + j)
theorem marks_len (i fr n : Nat) : (marks i fr n).length = n := by simp [marks]
theorem marks_succ (i fr n : Nat) : marks i fr (n + 1) = marks i fr n ++ [nm i (fr + n)] := by simp [marks, List.range_succ]
theorem marks_add (i n m : Nat) : marks i 0 (n + m) = marks i 0 n ++ marks i n m := by
  induction m with
  | zero => simp [marks]
  | succ m ih => rw [← Nat.add_assoc, marks_succ, ih, marks_succ, Nat.zero_add, List.append_assoc]
theorem strs_append (a b : List ByteArray) : strs (a ++ b) = strs a ++ strs b := by simp [strs]
theorem marks_take {i n k : Nat} (h : k ≤ n) : (marks i 0 n).take k = marks i 0 k := by
  obtain ⟨m, rfl⟩ := Nat.le.dest h
  rw [marks_add, List.take_append_of_le_length (by rw [marks_len]; exact Nat.le_refl _), List.take_of_length_le (by rw [marks_len]; exact Nat.le_refl _)]
theorem own_below {w w' : World} {base : Nat} {e : TypeId} {size : Nat} {v : Value} {n : Nat} {xs : List Value} (h : w.ownsRow base e size v n xs) {B : Nat} (hb : Below B w w') (hB : ∀ k, v.ownBlock = some k → k < B) : w'.ownsRow base e size v n xs := by
  refine ⟨h.1, ?_⟩
  rcases h.2 with hn | ⟨g, cap, cur, rfl, hbg, hg, rest⟩
  · exact .inl hn
  · exact .inr ⟨g, cap, cur, rfl, hbg, (hb.block g (hB g (by simp [Value.ownBlock]))).trans hg, rest⟩
set_option maxHeartbeats 1000000 in
set_option maxRecDepth 100000 in
theorem markTexts_any (i fr n : Nat) (hi : i ≤ 1000000000) (hf : fr ≤ 100000000000) (hn : n ≤ 100000000000) (w : World) :
    Calls Tryz.prog 122 #[.int .i64 i, .int .i64 fr, .int .i64 n] w fun e w' => ∃ v, e = .returned v ∧ w'.ownsRow w.heap.size 9 1 v n (strs (marks i fr n)) ∧ Below w.heap.size w w' := by
  obtain ⟨i0, hinf, hz0, hz1, hz2⟩ := info_parts bk_info_str
  obtain ⟨N, hN⟩ : ∃ N : Nat, N = fr + n := ⟨_, rfl⟩
  have eN : (fr : Int) + (n : Int) = (N : Int) := by omega
  have HNN := Lib.hid hN
  clear hN
  go_enter Tryz.func122, Tryz.ntmps122
  go_wp2
  go_loopw [7, 8] (fun l k wr => ∃ (j m : Nat), Hid (m = fr + j) ∧ m ≤ N ∧ k = .int .i64 m ∧ wr.ownsRow w.heap.size 9 1 l j (strs (marks i fr j)) ∧ Below w.heap.size w wr) (fun _ k _ => N - (intOf k).toNat)
  case atStart => exact ⟨0, fr, rfl, by have := HNN.out; omega, rfl, World.ownsRow_nil _ _ _ _, Below.refl _ _⟩
  case round =>
    obtain ⟨j, m, HM, hm, rfl, hown, hb⟩ := hrel
    by_cases hlt : m < N
    · have hsz := hb.size
      have hjn : j < n := by have := HM.out; have := HNN.out; omega
      have hm12 : m ≤ 1000000000000 := by have := HNN.out; omega
      go_wp2_with fail
      refine (name_any i m hi hm12 wr).mono ?_
      rintro e w2 ⟨rfl, hb2⟩
      have hown2 := own_below hown hb2 (fun k hk => (hown.lt k hk).2)
      have hb3 := hb.trans (hb2.mono hsz)
      have hsz3 := hb3.size
      clear hown hb hb2
      go_wp2_with (at_builtin; refine wpList_append_any _ rfl _ _ 22 rfl w.heap.size 9 i0 (.string ⟨#[]⟩) 1 16 Tryz.underlying22 hinf hz0 hz1 hz2 rfl (by decide) _ _ _ rfl (hown2.alloc _) (w2.heap.size + 1) (some ⟨w2.heap.size, 0, none⟩) 1 1 [.string (nm i m)] rfl ?d1 ?d2 ?d3 ?d4 ?d5 ?_)
      case d1 => exact reads_newV w2 _ _ _ rfl rfl rfl (Nat.lt_succ_self _)
      case d2 => simp [Value.oneCell']
      case d3 => unfold maxLen; omega
      case d4 => omega
      case d5 => simp; omega
      intro v4 w4 hown4 hgrow4 hlink4
      have hb4 : Below w.heap.size w w4 := by
        refine ((hb3.alloc hsz3 _)).trans ⟨hgrow4.os, hgrow4.tape, hgrow4.output, hgrow4.size, fun k hk => hgrow4.block k (by simp; omega) (fun e => ?_)⟩
        have := (hown2.lt k e.symm).1
        omega
      have HB4 := Lib.hid hb4
      have HO4 : Hid (w4.ownsRow w.heap.size 9 1 v4 (j + 1) (strs (marks i fr (j + 1)))) := by
        show World.ownsRow _ _ _ _ _ _ _
        rw [marks_succ, strs_append, ← HM.out]
        exact hown4
      clear hgrow4 hlink4 hb4 hb3 hown2 hown4
      go_wp2
      go_roundw
      case rel => exact ⟨j + 1, m + 1, by show _ = _; have := HM.out; omega, hlt, by go_num, HO4.out, HB4.out⟩
      case measure => simp [intOf]; omega
    · have hj : j = n := by have := HM.out; have := HNN.out; omega
      subst hj
      go_wp2
      go_ret
      exact ⟨_, rfl, hown, hb⟩
set_option maxHeartbeats 1000000 in
set_option maxRecDepth 100000 in
theorem copyTexts_any (ss : List ByteArray) (A : Option Addr) (n c : Nat) (B : Nat) (hss : ss.length = n) (hn : n ≤ 1000000000) (w : World) (hr : Reads w B 1 A n (strs ss)) :
    Calls Tryz.prog 27 #[.slice A n c] w fun e w' => ∃ v, e = .returned v ∧ w'.ownsRow w.heap.size 9 1 v n (strs ss) ∧ Below w.heap.size w w' := by
  obtain ⟨i0, hinf, hz0, hz1, hz2⟩ := info_parts bk_info_str
  go_enter Tryz.func27, Tryz.ntmps27
  go_wp2_with (at_builtin; refine wpList_append_any _ rfl _ _ 22 rfl w.heap.size 9 i0 (.string ⟨#[]⟩) 1 16 Tryz.underlying22 hinf hz0 hz1 hz2 rfl (by decide) _ _ _ rfl (World.ownsRow_nil w w.heap.size _ 1) B A n c (strs ss) rfl ?d1 ?d2 ?d3 ?d4 ?d5 ?_)
  case d1 => exact hr
  case d2 => simp [strs, Value.oneCell']
  case d3 => unfold maxLen; omega
  case d4 => omega
  case d5 => exact Nat.le_refl _
  intro v4 w4 hown4 hgrow4 hlink4
  have hb4 : Below w.heap.size w w4 := ⟨hgrow4.os, hgrow4.tape, hgrow4.output, hgrow4.size, fun k hk => hgrow4.block k hk (by simp [Value.ownBlock])⟩
  clear hgrow4 hlink4
  go_wp2
  go_ret
  exact ⟨_, rfl, hown4, hb4⟩
end Go.Proofs.YtlniafpbkhkkaaaGreat
