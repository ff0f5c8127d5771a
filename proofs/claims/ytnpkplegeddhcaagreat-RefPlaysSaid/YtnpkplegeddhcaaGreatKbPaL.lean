/-
 The book's LentParties, StaysParties as contracts.
 Conditions: lists of at most 9000.
-/
import Derived.Test.YtnpkplegeddhcaaGreatKb
import Derived.Test.YtnpkplegeddhcaaGreatR8a
import Derived.Test.YtnpkplegeddhcaaGreatAsEq
import Derived.Test.YtnpkplegeddhcaaGreatTk
namespace Go.Proofs.YtnpkplegeddhcaaGreat
open Go.RowKit Kb
attribute [local go_sem ↓] Go.wp_at_zero Go.wp_at_succ
set_option maxRecDepth 100000

/-- A struct compared with itself, in a region that only reads. -/
theorem wpQuiet_eq_self {ops : Array Oper} {C : World → Prop} {Q : Act → Prop} {rest : List Oper} {o : Oper} {a : Act} (hw : Region.wanted o (yielded ops a.tmps) = true) (T : TypeId) (u v : Operand) (z : TypeId) (ho : o.op = .binOp .eql T u v z)
  (cs : Array Value) (hx : a.eval u = .agg cs) (hy : a.eval v = .agg cs) (hg : Tryz.prog.eqGuardType Tryz.prog.depth T = false) (hrun : ∀ w, (Op.equalIn 10000 T (.agg cs) (.agg cs)).run Tryz.prog w = .ok true w)
  (h : wpQuiet Tryz.prog ops C Q rest (a.put o.dst (.bool true))) : wpQuiet Tryz.prog ops C Q (o :: rest) a := by
 refine BigFrame.wpQuiet_want hw fun K hK => ⟨_, fun w _ => ?_, hK _ h⟩
 have h1 := run_eqGuard_agg (P := Tryz.prog) w .eql T u v cs cs hg
 have h2 := run_eql_struct (P := Tryz.prog) w T cs cs
 rw [hrun] at h2
 unfold Oper.quietAt execOp
 simp only [ho, hx, hy, Sem.run_bind, h1, h2, Result.andThen_ok]
 exact ⟨rfl, rfl⟩
namespace KPa
/-- An element's cells. -/
def ec (x : Party) : List Value := (Kd.val x).cells.toList
def mk (s : ByteArray) : Party := ⟨s, 0⟩
theorem ec_len (x : Party) : (ec x).length = 2 := rfl
theorem ec_one (x : Party) : ∀ u ∈ ec x, u.oneCell' = true := by
 intro u hu
 simp only [ec, Kd.val, Value.cells, List.mem_cons, List.not_mem_nil, or_false] at hu
 rcases hu with rfl | rfl <;> rfl
theorem info : (Tryz.prog.info? 84).map (fun i => (i.zero, i.size, i.bytes)) = some (some (.agg #[.string ⟨#[]⟩, .int .i64 0]), 2, 24) := by kernel_rfl
theorem info_l : (Tryz.prog.info? 35).map (fun i => (i.zero, i.size, i.bytes)) = some (some (.slice none 0 0), 1, 24) := by kernel_rfl
theorem size : (Tryz.prog.info? 84).map (·.size) = some 2 := by kernel_rfl
theorem und : Tryz.prog.underlying 84 = some (.struct (Tryz.prog.fieldsOf 84)) := by kernel_rfl
theorem eqg : Tryz.prog.eqGuardType Tryz.prog.depth 84 = false := by kernel_rfl
theorem held : Tryz.prog.stoodInHeld 84 = false := by kernel_rfl
theorem eq_self (x : Party) (w : World) : (Op.equalIn 10000 84 (.agg (ec x).toArray) (.agg (ec x).toArray)).run Tryz.prog w = .ok true w := by
 show (Op.equalIn 10000 84 (.agg #[.string x.name, .int .i64 x.limit]) (.agg #[.string x.name, .int .i64 x.limit])).run Tryz.prog w = .ok true w
 rw [run_equalIn_struct w 9999 _ _ _ und held]
 have hf : (Tryz.prog.fieldsOf 84).toList.map (fun f => (decide (f.name ≠ "_"), f.type, f.offset)) = [(true, 9, 0), (true, 3, 1)] := by kernel_rfl
 generalize (Tryz.prog.fieldsOf 84).toList = fl at hf ⊢
 rcases fl with _ | ⟨f0, _ | ⟨f1, _ | ⟨f2, r⟩⟩⟩
 all_goals first
  | (exfalso; simp at hf; done)
  | skip
 simp only [List.map_cons, List.map_nil, List.cons.injEq, Prod.mk.injEq, decide_eq_true_eq, and_true] at hf
 obtain ⟨⟨a1, b1, c1⟩, a2, b2, c2⟩ := hf
 simp [Op.eqFields, a1, b1, c1, a2, b2, c2, part, sizeOf, typeInfo, isAgg, Sem.run_bind, run_underlying]
 rw [run_equalIn_string w 9998 _ x.name x.name Tryz.underlying9]
 simp [Result.andThen, run_equalIn_string w 9998 _ _ _ Tryz.underlying9, run_equalIn_int w 9998 _ .i64 .i64 _ _ Tryz.underlying3]
abbrev At := KAt ec 2 84 35 8
set_option maxHeartbeats 2000000 in
theorem mark_any (i fr n : Nat) (hi : i ≤ 1000000000) (hf : fr ≤ 100000000000) (hn : n ≤ 100000000000) (w : World) :
  Calls Tryz.prog 186 #[.int .i64 i, .int .i64 fr, .int .i64 n] w fun e w' => ∃ v, e = .returned v ∧ w'.ownsRow w.heap.size 84 2 v n (cs ec (marks mk i fr n)) ∧ Below w.heap.size w w' := by
 obtain ⟨i0, hinf, hz0, hz1, hz2⟩ := info_parts info
 obtain ⟨N, hN⟩ : ∃ N : Nat, N = fr + n := ⟨_, rfl⟩
 have eN : (fr : Int) + (n : Int) = (N : Int) := by omega
 have HNN := Lib.hid hN
 clear hN
 go_enter Tryz.func186, Tryz.ntmps186
 go_wp2
 go_loopw [7, 8] (fun l k wr => ∃ (j m : Nat), Hid (m = fr + j) ∧ m ≤ N ∧ k = .int .i64 m ∧ wr.ownsRow w.heap.size 84 2 l j (cs ec (marks mk i fr j)) ∧ Below w.heap.size w wr) (fun _ k _ => N - (intOf k).toNat)
 case atStart => exact ⟨0, fr, rfl, by have := HNN.out; omega, rfl, World.ownsRow_nil _ _ _ _, Below.refl _ _⟩
 case round =>
  obtain ⟨j, m, HM, hm, rfl, hown, hb⟩ := hrel
  by_cases hlt : m < N
  ·have hsz := hb.size
   have hjn : j < n := by have := HM.out; have := HNN.out; omega
   have hm12 : m ≤ 1000000000000 := by have := HNN.out; omega
   go_wp2_with fail
   refine (name_any i m hi hm12 _).mono ?_
   rintro e w2 ⟨rfl, hb2⟩
   have hown2 := own_below hown hb2 (fun k hk => (hown.lt k hk).2)
   have hb3 := hb.trans (hb2.mono hsz)
   have hsz3 := hb3.size
   clear hown hb hb2
   go_wp2_with (at_builtin; refine wpList_append_any _ rfl _ _ 35 rfl w.heap.size 84 i0 (.agg #[.string ⟨#[]⟩, .int .i64 0]) 2 24 Tryz.underlying35 hinf hz0 hz1 hz2 rfl (by decide) _ _ _ rfl (hown2.alloc _) (w2.heap.size + 1) (some ⟨w2.heap.size, 0, none⟩) 1 1 [.string (nm i m), .int .i64 0] rfl ?d1 ?d2 ?d3 ?d4 ?d5 ?_)
   case d1 => exact reads_newN w2 [.string (nm i m), .int .i64 0] _ _ rfl rfl
   case d2 => simp [Value.oneCell']
   case d3 => unfold maxLen; omega
   case d4 => omega
   case d5 => simp; omega
   intro v4 w4 hown4 hgrow4 hlink4
   have hb4 : Below w.heap.size w w4 := by
    refine ((hb3.alloc hsz3 _)).trans ⟨hgrow4.os, hgrow4.tape, hgrow4.output, hgrow4.size, fun k hk => hgrow4.block k (by simp; omega) (fun e => ?_)⟩
    have := (hown2.lt k e.symm).1
    omega
   have HB4 := Lib.hid hb4
   have HO4 : Hid (w4.ownsRow w.heap.size 84 2 v4 (j + 1) (cs ec (marks mk i fr (j + 1)))) := by
    show World.ownsRow _ _ _ _ _ _ _
    rw [marks_succ, cs_append, ← HM.out, cs_one]
    exact hown4
   clear hgrow4 hlink4 hb4 hb3 hown2 hown4
   go_wp2
   go_roundw
   case rel => exact ⟨j + 1, m + 1, by show _ = _; have := HM.out; omega, hlt, by go_num, HO4.out, HB4.out⟩
   case measure => simp [intOf]; omega
  ·have hj : j = n := by have := HM.out; have := HNN.out; omega
   subst hj
   go_wp2
   go_ret
   exact ⟨_, rfl, hown, hb⟩
set_option maxHeartbeats 1000000 in
theorem copy_any (ss : List Party) (A : Option Addr) (n c : Nat) (B : Nat) (hss : ss.length = n) (hn : n ≤ 1000000000) (w : World) (hr : Reads w B 2 A n (cs ec ss)) :
  Calls Tryz.prog 79 #[.slice A n c] w fun e w' => ∃ v, e = .returned v ∧ w'.ownsRow w.heap.size 84 2 v n (cs ec ss) ∧ Below w.heap.size w w' := by
 obtain ⟨i0, hinf, hz0, hz1, hz2⟩ := info_parts info
 go_enter Tryz.func79, Tryz.ntmps79
 go_wp2_with (at_builtin; refine wpList_append_any _ rfl _ _ 35 rfl w.heap.size 84 i0 (.agg #[.string ⟨#[]⟩, .int .i64 0]) 2 24 Tryz.underlying35 hinf hz0 hz1 hz2 rfl (by decide) _ _ _ rfl (World.ownsRow_nil w w.heap.size _ 2) B A n c (cs ec ss) rfl ?d1 ?d2 ?d3 ?d4 ?d5 ?_)
 case d1 => exact hr
 case d2 => exact cs_ones ec_one ss
 case d3 => unfold maxLen; omega
 case d4 => omega
 case d5 => exact Nat.le_refl _
 intro v4 w4 hown4 hgrow4 hlink4
 have hb4 : Below w.heap.size w w4 := ⟨hgrow4.os, hgrow4.tape, hgrow4.output, hgrow4.size, fun k hk => hgrow4.block k hk (by simp [Value.ownBlock])⟩
 clear hgrow4 hlink4
 have HO4 : Hid (w4.ownsRow w.heap.size 84 2 v4 n (cs ec ss)) := by show World.ownsRow _ _ _ _ _ _ _; simpa using hown4
 clear hown4
 go_wp2
 go_ret
 exact ⟨_, rfl, HO4.out, hb4⟩
set_option maxHeartbeats 4000000 in
theorem same_any (l : List Party) (n : Nat) (hn : l.length = n) (hl : n ≤ 9223372036854775807) (A A' : Option Addr) (c c' B B' : Nat) (w : World) (h : Reads w B 2 A n (cs ec l)) (h' : Reads w B' 2 A' n (cs ec l)) :
  Calls Tryz.prog 43 #[.slice A n c, .slice A' n c'] w fun e w' => e = .returned (.bool true) ∧ ∃ q, w' = w.drewN q := by
 have HN := Lib.hid hn; have H1 := Lib.hid h; have H2 := Lib.hid h'
 clear hn h h'
 go_enter Tryz.func43, Tryz.ntmps43
 go_wp2
 go_loopw [5] (fun i wr => ∃ j : Nat, j ≤ n ∧ i = .int .i64 j ∧ Hid (∃ q, wr = w.drewN q)) (fun i _ => n - (intOf i).toNat)
 case atStart => exact ⟨0, Nat.zero_le _, rfl, 0, rfl⟩
 case round =>
  obtain ⟨j, hj, rfl, HQ⟩ := hrel
  obtain ⟨q0, hq0⟩ := HQ.out
  have HQ0 := Lib.hid hq0
  by_cases hlt : j < n
  ·obtain ⟨ad, x, rfl, hab, hk1, hc1⟩ := el_at ec_len (by decide) H1.out (show j < l.length by rw [HN.out]; exact hlt)
   obtain ⟨ae, x', rfl, hae, hk2, hc2⟩ := el_at ec_len (by decide) H2.out (show j < l.length by rw [HN.out]; exact hlt)
   rw [hk1] at hk2
   obtain rfl : x = x' := by injection hk2
   have HC1 : Hid (∀ j' v, (ec x)[j']? = some v → wr.cell? ((ad.add (j * 2)).add j') = some v) := by show ∀ _ _, _; rw [hq0]; exact hc1
   have HC2 : Hid (∀ j' v, (ec x)[j']? = some v → wr.cell? ((ae.add (j * 2)).add j') = some v) := by show ∀ _ _, _; rw [hq0]; exact hc2
   clear hc1 hc2 hk1 hk2 HQ hq0
   go_wp2
   refine wp_region_quiet_lit (by kernel_rfl) (by kernel_rfl) ?_
   repeat (first
    | (refine wpQuiet_load_cells rfl 84 _ rfl (ad.add (j * 2)) rfl (ec x) _ ?cc Tryz.underlying84 rfl size ?_; (case cc => rintro _ ⟨nq, rfl⟩; exact HC1.out); simp only [Act.put, sA, sC, sB])
    | (refine wpQuiet_load_cells rfl 84 _ rfl (ae.add (j * 2)) rfl (ec x) _ ?cc Tryz.underlying84 rfl size ?_; (case cc => rintro _ ⟨nq, rfl⟩; exact HC2.out); simp only [Act.put, sA, sC, sB])
    | (refine wpQuiet_eq_self rfl 84 _ _ _ rfl (ec x).toArray rfl rfl eqg (eq_self x) ?_; simp only [Act.put, sA, sC, sB])
    | go_big_quiet_step (fail))
   refine wpQuiet_nil ?_
   rintro _ ⟨nq, rfl⟩
   go_wp2
   go_round
   case rel => exact ⟨j + 1, by omega, by go_num, by show ∃ q, _; rw [HQ0.out, World.drewN_drewN]; exact ⟨_, rfl⟩⟩
   case measure => simp [intOf]; omega
  ·obtain rfl : j = n := by omega
   go_wp2
   go_ret
   exact ⟨rfl, q0, by first | exact HQ0.out | rfl⟩
end KPa
end Go.Proofs.YtnpkplegeddhcaaGreat
namespace Go.Proofs.YtnpkplegeddhcaaGreat
open Go.RowKit Kb
attribute [local go_sem ↓] Go.wp_at_zero Go.wp_at_succ
set_option maxRecDepth 100000
namespace KPa
set_option maxHeartbeats 4000000 in
theorem add_any (g : Nat) (bc : Array Value) (tv wv : Value) (L : List (KRow Party)) (w : World) (h : At g bc tv wv L w) (hL : L.length < 250) (v : Value) (ss : List Party) (hv : w.ownsRow 0 84 2 v ss.length (cs ec ss)) (hs : ss.length ≤ 1000000000) (ha : ∀ k, v.ownBlock = some k → k ∉ bkBlocks g tv wv L) :
  Calls Tryz.prog 40 #[.pointer (some ⟨g, 0, none⟩), v] w fun e w' => e = .returned (.tuple #[]) ∧ ∃ tv' wv' m, At g ((bc.setIfInBounds 8 tv').setIfInBounds 9 wv') tv' wv' (L ++ [⟨v, ss, m, ss⟩]) w' ∧ Mv (g :: tv.ownBlock.toList ++ wv.ownBlock.toList) (g :: tv'.ownBlock.toList ++ wv'.ownBlock.toList) w w' ∧ ∀ k, m.ownBlock = some k → w.heap.size ≤ k := by
 obtain ⟨i0, hinf, hz0, hz1, hz2⟩ := info_parts info_l
 obtain ⟨A1, c1, rfl, hc1⟩ := own_form h.ot
 obtain ⟨A2, c2, rfl, hc2⟩ := own_form h.ow
 obtain ⟨A3, c3, rfl, hc3⟩ := own_form hv
 obtain ⟨n, hn⟩ : ∃ n, L.length = n := ⟨_, rfl⟩
 obtain ⟨l, hl⟩ : ∃ l, ss.length = l := ⟨_, rfl⟩
 have f0 := h.frozen 8
 have e0 : w.cell? ⟨g, 8, none⟩ = some (.slice A1 n c1) := by rw [← hn]; exact h.cell h.c0
 have e1 : w.cell? ⟨g, 9, none⟩ = some (.slice A2 n c2) := by rw [← hn]; exact h.cell h.c1
 have htv := h.ot
 rw [hn] at htv hL
 have H := Lib.hid h
 have HV := Lib.hid hv
 have HA := Lib.hid ha
 have HN := Lib.hid hn
 have HLS := Lib.hid hl
 have HQT := Lib.hid h.qt; have HQW := Lib.hid h.qw
 rw [hl] at hs hc3 ⊢
 rw [hn] at HQT HQW
 clear h hv ha hn hl
 go_enter Tryz.func40, Tryz.ntmps40
 go_wp2_with (at_builtin; refine wpList_append_sl rfl _ _ 47 rfl 0 35 i0 Tryz.underlying47 hinf hz0 hz1 hz2 _ _ _ rfl (htv.alloc _) (HQT.out.keep (fun k hk => Below.heap_alloc w _ k (htv.lt k hk).2)) (w.heap.size + 1) ⟨w.heap.size, 0, none⟩ 1 (.slice A3 l c3) ⟨_, _, _, rfl⟩ rfl ?d1 ?d3 ?d4 ?d5 ?_)
 case d1 => exact reads_newV w _ _ _ rfl rfl rfl (Nat.lt_succ_self _)
 case d3 => unfold maxLen; omega
 case d4 => omega
 case d5 => simp
 intro v4 w4 hown4 hgrow4 hlink4 hall4
 have hsep := H.out.sep
 have hgl : g < w.heap.size := Blk.lt (t := 61) H.out.cells
 have hold : ∀ k, k < w.heap.size → (Value.slice A1 n c1).ownBlock ≠ some k → w4.heap[k]? = w.heap[k]? := fun k hk hn => (hgrow4.block k (by simp; omega) (fun e => hn e.symm)).trans (Below.heap_alloc w _ k hk)
 have hg4 : w4.heap[g]? = some (.cells bc 61 (0, 0)) := by
  rw [hold g hgl (fun e => hsep.gT (by rw [HN.out]; exact e)), H.out.cells]
 have d0 : w4.cell? ⟨g, 8, none⟩ = some (.slice A1 n c1) := by rw [Lib.cell_of_heap hg4, ← HN.out]; exact H.out.c0
 have f4 : w4.frozen? ⟨g, 8, none⟩ = false := Lib.frozen_of_heap hg4 8
 obtain ⟨A4, c4, rfl, hc4⟩ := own_form hown4
 have hk5 : (w4.setCell ⟨g, 8, none⟩ (.slice A4 (n + 1) c4)).heap[g]? = some (.cells (bc.setIfInBounds 8 (.slice A4 (n + 1) c4)) 61 (0, 0)) := Blk.set_ (show Blk w4 g 61 _ from hg4) 8 _
 have hset : ∀ k, k ≠ g → (w4.setCell ⟨g, 8, none⟩ (.slice A4 (n + 1) c4)).heap[k]? = w4.heap[k]? := fun k hk => Below.heap_setCell _ _ _ _ hk
 have hlt4 : ∀ k, (Value.slice A4 (n + 1) c4).ownBlock = some k → (Value.slice A1 n c1).ownBlock = some k ∨ k = w.heap.size + 1 := by
  intro k hk
  rcases hlink4 with h | h
  ·left; rw [← h]; exact hk
  ·right; rw [h] at hk; injection hk with hk; have hq := size_alloc_one w (Obj.cells #[.slice A3 l c3] 35); omega
 have hne4 : (Value.slice A4 (n + 1) c4).ownBlock ≠ some g := by
  intro e
  rcases hlt4 g e with h | h
  ·exact hsep.gT (by rw [HN.out]; exact h)
  ·omega
 have hz4 : w.heap.size + 1 ≤ w4.heap.size := by have := hgrow4.size; simpa using this
 have hzs : (w4.setCell ⟨g, 8, none⟩ (.slice A4 (n + 1) c4)).heap.size = w4.heap.size := by simp [World.setCell]
 have hown5 : (w4.setCell ⟨g, 8, none⟩ (.slice A4 (n + 1) c4)).ownsRow 0 35 1 (.slice A4 (n + 1) c4) (n + 1) (L.map KRow.v ++ [.slice A3 l c3]) := own_keep' hown4 (fun k hk => hset k (fun e => hne4 (by rw [← e]; exact hk)))
 have hm5 : Mv (g :: (Value.slice A1 n c1).ownBlock.toList) (g :: (Value.slice A4 (n + 1) c4).ownBlock.toList) w (w4.setCell ⟨g, 8, none⟩ (.slice A4 (n + 1) c4)) := by
  refine Mv.set_ (Mv.grown ((Mv.refl (g :: (Value.slice A1 n c1).ownBlock.toList) w).alloc _) hgrow4 (fun k hk => by simp [hk]) (fun k hk => ?_)) (by simp) 8 _
  simp only [List.mem_cons, Option.mem_toList] at hk ⊢
  rcases hk with rfl | hk
  ·exact .inl (.inl rfl)
  ·rcases hlink4 with h | h
   ·rw [h] at hk; exact .inl (.inr hk)
   ·rw [h] at hk; injection hk with hk; right; have hq := size_alloc_one w (Obj.cells #[.slice A3 l c3] 35); omega
 have hkeep : ∀ k, k < w.heap.size → k ≠ g → (Value.slice A1 n c1).ownBlock ≠ some k → (w4.setCell ⟨g, 8, none⟩ (.slice A4 (n + 1) c4)).heap[k]? = w.heap[k]? := fun k hk h1 h2 => (hset k h1).trans (hold k hk h2)
 clear hgrow4 hlink4 hown4 hg4 hset htv e0 e1 f0 hold
 obtain ⟨W5, hW5⟩ : ∃ W5, w4.setCell ⟨g, 8, none⟩ (.slice A4 (n + 1) c4) = W5 := ⟨_, rfl⟩
 have HW5 := Lib.hid hW5
 rw [hW5] at hk5 hown5 hm5 hkeep hzs
 clear hW5
 have hw5 : W5.ownsRow 0 35 1 (.slice A2 n c2) n (L.map KRow.m) := by
  have h := H.out.ow
  rw [HN.out] at h
  exact own_keep' h (fun k hk => hkeep k (h.lt k hk).2 (fun e => hsep.gW (by rw [HN.out, ← e]; exact hk)) (fun e => hsep.TW k (by rw [HN.out]; exact e) (by rw [HN.out]; exact hk)))
 have hv5 : W5.ownsRow 0 84 2 (.slice A3 l c3) l (cs ec ss) := by
  have h := HV.out
  rw [HLS.out] at h
  exact own_keep' h (fun k hk => by
   have hq := HA.out k (by rw [HLS.out]; exact hk)
   unfold bkBlocks at hq
   simp only [List.cons_append, List.mem_cons, List.mem_append, Option.mem_toList, not_or] at hq
   exact hkeep k (h.lt k hk).2 hq.1 (fun e => hq.2.1.1 (by rw [HN.out]; exact e)))
 have HC1 : Hid ((bc.setIfInBounds 8 (.slice A4 (n + 1) c4))[9]? = some (.slice A2 n c2)) := by
  show _ = _
  have h9 := H.out.c1
  rw [HN.out] at h9
  rw [Array.getElem?_setIfInBounds_ne (by decide)]
  exact h9
 have h5lt : ∀ k, (Value.slice A2 n c2).ownBlock = some k → k < w.heap.size := fun k hk => by have h9 := H.out.ow; rw [HN.out] at h9; exact (h9.lt k hk).2
 have hrd5 := Reads.of_own hv5
 have hg5 : g < W5.heap.size := Blk.lt (t := 61) hk5
 have e51 : W5.cell? ⟨g, 9, none⟩ = some (.slice A2 n c2) := by rw [Lib.cell_of_heap hk5]; exact HC1.out
 have HK5 := Lib.hid hk5
 have HQ5 : Hid (AllSl W5 (.slice A4 (n + 1) c4)) := by
  show AllSl _ _
  rw [← HW5.out]
  exact hall4.keep (fun k hk => Below.heap_setCell _ _ _ _ (fun e => hne4 (by have e' : k = g := e; rw [← e']; exact hk)))
 have HQW5 : Hid (AllSl W5 (.slice A2 n c2)) := HQW.out.keep (fun k hk => hkeep k ((h5lt k hk)) (fun e => hsep.gW (by rw [HN.out, ← e]; exact hk)) (fun e => hsep.TW k (by rw [HN.out]; exact e) (by rw [HN.out]; exact hk)))
 have HO5 := Lib.hid hown5
 have HM5 := Lib.hid hm5
 have HKE := Lib.hid hkeep
 have HSEP := Lib.hid hsep
 have HL4 := Lib.hid hlt4
 have HNE4 := Lib.hid hne4
 have HV5 := Lib.hid hv5
 have hzW : w.heap.size + 1 ≤ W5.heap.size := by rw [hzs]; exact hz4
 have HGW := Lib.hid hgl
 have hA2 : A2 ≠ some ⟨g, 0, none⟩ := fun e => hsep.gW (by rw [e]; rfl)
 have hg2 : (Value.slice A2 n c2).ownBlock ≠ some g := fun e => hsep.gW (by rw [HN.out]; exact e)
 have HG2 := Lib.hid hg2
 clear hk5 hown5 hm5 hkeep hsep hlt4 hne4 hv5 hz4 hzs hA2 hg2 hgl
 go_wp2_with fail
 rw [HW5.out]
 clear d0 f4 HW5
 have CC := copy_any ss A3 l c3 W5.heap.size HLS.out hs W5.drew hrd5.drew
 have HW5' := Lib.hid hw5
 go_region_law ((first
  | (refine step_append_sl rfl (.tmp 24) (.tmp 27) 47 rfl 0 35 i0 Tryz.underlying47 hinf hz0 hz1 hz2 (.slice A2 n c2) n (L.map KRow.m) (by rfl) (hw6.alloc _) (hq6.keep (fun k hk => Below.heap_alloc w6 _ k (hw6.lt k hk).2)) (w6.heap.size + 1) ⟨w6.heap.size, 0, none⟩ 1 (.slice Am l cm) ⟨_, _, _, rfl⟩ (by rfl) (reads_newV w6 _ _ _ rfl rfl rfl (Nat.lt_succ_self _)) (by unfold maxLen; omega) (by omega) (Nat.zero_le _) ?_; intro v7 w7 ho7 hg7 hl7 hq7; have hb7 := (hg7.block g (show g < (w6.alloc _).heap.size by rw [size_alloc_one]; omega) (fun e => HG2.out e.symm)).trans ((Below.heap_alloc w6 _ g (show g < w6.heap.size by omega)).trans ((HB6.out.block g hg5).trans HK5.out)); have h71 : w7.cell? ⟨g, 9, none⟩ = some (.slice A2 n c2) := (by rw [Lib.cell_of_heap hb7]; exact HC1.out); have f71 : w7.frozen? ⟨g, 9, none⟩ = false := Lib.frozen_of_heap hb7 9; obtain ⟨A7, c7, rfl, hc7⟩ := own_form ho7)
  | (go_simp; (with_reducible refine CC.mono ?_); rintro e w6 ⟨vm, rfl, hom, hb6⟩; have hb6' : Below W5.heap.size W5 w6 := (Below.refl W5.heap.size W5).drew.trans hb6; have hz6 : W5.heap.size ≤ w6.heap.size := hb6'.size; have hw6 := own_below HW5'.out hb6' (fun k hk => (HW5'.out.lt k hk).2); have hq6 : AllSl w6 (.slice A2 n c2) := HQW5.out.keep (fun k hk => hb6'.block k (HW5'.out.lt k hk).2); have h61 : w6.cell? ⟨g, 9, none⟩ = some (.slice A2 n c2) := (hb6'.cell (show g < _ from hg5)).trans e51; obtain ⟨Am, cm, rfl, hcm⟩ := own_form hom; have HB6 := Lib.hid hb6'; have h62 : (w6.alloc (.cells #[.slice Am l cm] 35)).cell? ⟨g, 9, none⟩ = some (.slice A2 n c2) := (World.cell?_alloc_lt _ _ _ (show g < w6.heap.size by omega)).trans h61)))
 all_goals
  have hN := HN.out
  have hLS := HLS.out
  subst hN hLS
  have hfin := bk_added H.out HV.out HA.out hs hL HQ5.out hq7 (by decide) hb7 HO5.out (fun k hk => (HL4.out k hk).imp id (fun e => by omega)) HNE4.out HM5.out HB6.out hom hg7 ho7 hl7
  have HFIN := Lib.hid hfin
  have HMF := Lib.hid (fun k hk => Nat.le_trans (Nat.le_of_succ_le hzW) (hom.lt k hk).1)
  clear hfin hb7 h71 f71 ho7 hg7 hl7 hq7 hq6 hom hw6 h61 h62 hb6 hb6' CC e51 hrd5 hw5
  go_wp2
  go_end0
  first | exact ⟨rfl, _, _, _, HFIN.out.1, HFIN.out.2, HMF.out⟩ | exact ⟨rfl, _, _, ⟨_, HFIN.out.1⟩, HFIN.out.2, HMF.out⟩
set_option maxHeartbeats 4000000 in
theorem still_any (g : Nat) (bc : Array Value) (tv wv : Value) (L : List (KRow Party)) (w : World) (h : At g bc tv wv L w) (hc : ∀ r ∈ L, r.mm = r.ss) :
  Calls Tryz.prog 86 #[.pointer (some ⟨g, 0, none⟩)] w fun e w' => e = .returned (.bool true) ∧ ∃ q, w' = w.drewN q := by
 obtain ⟨A1, c1, rfl, hc1⟩ := own_form h.ot
 obtain ⟨A2, c2, rfl, hc2⟩ := own_form h.ow
 obtain ⟨n, hn⟩ : ∃ n, L.length = n := ⟨_, rfl⟩
 have hl := h.len
 rw [hn] at hl hc1 hc2
 have H := Lib.hid h; have HC := Lib.hid hc; have HN := Lib.hid hn
 clear h hc
 rw [hn] at H
 clear hn
 go_enter Tryz.func86, Tryz.ntmps86
 go_wp2
 go_loopw [3] (fun i wr => ∃ k : Nat, k ≤ n ∧ i = .int .i64 k ∧ Hid (∃ q, wr = w.drewN q)) (fun i _ => n - (intOf i).toNat)
 case atStart => exact ⟨0, Nat.zero_le _, rfl, 0, rfl⟩
 case round =>
  obtain ⟨k, hk, rfl, HQ⟩ := hrel
  obtain ⟨q, hq⟩ := HQ.out
  have hb : At g bc (.slice A1 n c1) (.slice A2 n c2) L wr := by rw [hq]; exact H.out.drewN q
  have HW := Lib.hid hq
  clear hq HQ
  have e0 : wr.cell? ⟨g, 8, none⟩ = some (.slice A1 n c1) := hb.cell hb.c0
  have e1 : wr.cell? ⟨g, 9, none⟩ = some (.slice A2 n c2) := hb.cell hb.c1
  have hot := hb.ot
  have how := hb.ow
  rw [HN.out] at hot how
  by_cases hlt : k < n
  ·obtain ⟨q1, c1', r, e, hr, d0, _⟩ := row_at hot HN.out hlt
   injection e with ea _ ec
   subst ea ec
   obtain ⟨q2, c2', r', e, hr', d1, _⟩ := row_at how HN.out hlt
   injection e with ea _ ec
   subst ea ec
   obtain rfl : r = r' := by rw [hr] at hr'; injection hr'
   have hrm := List.mem_of_getElem? hr
   have hrow := hb.rows r hrm
   have hcp := HC.out r hrm
   obtain ⟨rv, rss, rm, rmm⟩ := r
   obtain rfl : rmm = rss := hcp
   have hov : wr.ownsRow 0 84 2 rv rmm.length (cs ec rmm) := hrow.v
   have hom : wr.ownsRow 0 84 2 rm rmm.length (cs ec rmm) := hrow.m
   have hlv : rmm.length ≤ 1000000000 := hrow.lv
   clear hrow hr hr' hrm hb hot how
   obtain ⟨A3, c3, rfl, _⟩ := own_form hov
   obtain ⟨A4, c4, rfl, _⟩ := own_form hom
   obtain ⟨m, hm⟩ : ∃ m, rmm.length = m := ⟨_, rfl⟩
   simp only [hm] at d0 d1 hov hom hlv
   have qs := fun N => same_any rmm m hm (by omega) A3 A4 c3 c4 wr.heap.size wr.heap.size (wr.drewN N) ((Reads.of_own hov).drewN N) ((Reads.of_own hom).drewN N)
   have QS := Lib.hid qs
   have b1 : (0 : Int) ≤ (k : Int) := by omega
   have b2 : (k : Int) < (n : Int) := by omega
   clear hov hom hlv hm qs H HC
   go_wp2
   go_quiet ((go_at_call 43; exact Calls.quiet_of (QS.out _)))
   all_goals
    go_wp2
    go_roundw
    case rel => exact ⟨k + 1, hlt, by go_num, by rw [HW.out, World.drewN_drewN]; exact ⟨_, rfl⟩⟩
    case measure => simp [intOf]; omega
  ·obtain rfl : k = n := by omega
   go_wp2
   go_ret
   exact ⟨rfl, q, HW.out⟩
end KPa
end Go.Proofs.YtnpkplegeddhcaaGreat
namespace Go.Proofs.YtnpkplegeddhcaaGreat
open Go.RowKit Kb
attribute [local go_sem ↓] Go.wp_at_zero Go.wp_at_succ
set_option maxRecDepth 100000
namespace KPa
set_option maxHeartbeats 8000000 in
theorem put_any (g : Nat) (bc : Array Value) (tv wv : Value) (L : List (KRow Party)) (w : World) (h : At g bc tv wv L w) :
  Calls Tryz.prog 107 #[.pointer (some ⟨g, 0, none⟩)] w fun e w' => e = .returned (.tuple #[]) ∧ At g bc tv wv (markN mk L.length L) w' ∧ Mv (bkBlocks g tv wv L) (bkBlocks g tv wv L) w w' := by
 obtain ⟨A1, c1, rfl, hc1⟩ := own_form h.ot
 obtain ⟨n, hn⟩ : ∃ n, L.length = n := ⟨_, rfl⟩
 have hl := h.len
 rw [hn] at hl hc1 ⊢
 have H := Lib.hid h; have HN := Lib.hid hn
 clear h
 rw [hn] at H
 clear hn
 obtain ⟨S, hS⟩ : ∃ S, bkBlocks g (.slice A1 n c1) wv L = S := ⟨_, rfl⟩
 have HSS := Lib.hid hS
 have HLT : Hid (∀ k, k ∈ S → k < w.heap.size) := by show ∀ k, _ → _; rw [← hS]; exact H.out.there
 rw [hS]
 clear hS
 go_enter Tryz.func107, Tryz.ntmps107
 go_wp2
 go_loopw [2] (fun i wr => ∃ k : Nat, k ≤ n ∧ i = .int .i64 k ∧ Hid (At g bc (.slice A1 n c1) wv (markN mk k L) wr) ∧ Hid (Mv S S w wr)) (fun i _ => n - (intOf i).toNat)
 case atStart => exact ⟨0, Nat.zero_le _, rfl, by show At _ _ _ _ _ _; rw [markN_zero]; exact H.out, Mv.refl _ _⟩
 case round =>
  obtain ⟨k, hk, rfl, HB, HM⟩ := hrel
  have e0 : wr.cell? ⟨g, 8, none⟩ = some (.slice A1 n c1) := by have h9 := HB.out.c0; exact HB.out.cell h9
  by_cases hlt : k < n
  ·have hot := HB.out.ot
   rw [markN_v, markN_len, HN.out] at hot
   obtain ⟨q1, c1', r, e, hr, d0, hcc⟩ := row_at hot HN.out hlt
   injection e with ea _ ec
   subst ea ec
   have hrk := markN_at mk k L hr
   have hrow := HB.out.rows r (List.mem_of_getElem? hrk)
   have hov : wr.ownsRow 0 84 2 r.v r.ss.length (cs ec r.ss) := hrow.v
   have hlv := hrow.lv
   obtain ⟨A3, c3, hrv, hc3⟩ := own_form hov
   obtain ⟨m, hm⟩ : ∃ m, r.ss.length = m := ⟨_, rfl⟩
   rw [hm] at hlv hrv hc3
   rw [hrv] at d0
   have b1 : (0 : Int) ≤ (k : Int) := by omega
   have b2 : (k : Int) < (n : Int) := by omega
   have hq1 : q1 ∈ S := by rw [← HSS.out]; exact mem_bk.2 (.inr (.inl rfl))
   have hgS : g ∈ S := by rw [← HSS.out]; exact mem_bk.2 (.inl rfl)
   have HRK := Lib.hid hrk; have HRV := Lib.hid hrv; have HMM := Lib.hid hm; have HR := Lib.hid hr
   have qm := mark_any k 0 m (by omega) (by omega) (by omega) wr
   have hzr := HM.out.size
   clear hot hrow hov hrk hrv hm hr
   go_wp2_with fail
   refine qm.mono ?_
   rintro e w5 ⟨v5, rfl, ho5, hb5⟩
   obtain ⟨A5, c5, rfl, hc5⟩ := own_form ho5
   have HO5 := Lib.hid ho5
   have HM5 := Lib.hid (Mv.then_below' HM.out hb5)
   have HB5 : Hid (At g bc (.slice (some ⟨q1, 0, none⟩) n c1) wv ((markN mk k L).set k ⟨r.v, marks mk k 0 0 ++ r.ss.drop 0, r.m, r.mm⟩) w5) := by
    show At _ _ _ _ _ _
    have : (⟨r.v, marks mk k 0 0 ++ r.ss.drop 0, r.m, r.mm⟩ : KRow Party) = r := by simp [marks]
    rw [this, set_same k _ HRK.out]
    exact HB.out.below hb5
   have hz5 := hb5.size
   obtain ⟨wo, hwo⟩ : ∃ wo : World, wo = wr := ⟨_, rfl⟩
   subst hwo
   clear qm ho5 hb5 e0 d0
   go_wp2
   go_loopw [4] (fun j w6 => ∃ jn : Nat, jn ≤ m ∧ j = .int .i64 jn ∧ Hid (At g bc (.slice (some ⟨q1, 0, none⟩) n c1) wv ((markN mk k L).set k ⟨r.v, marks mk k 0 jn ++ r.ss.drop jn, r.m, r.mm⟩) w6) ∧ Hid (Mv S S w w6) ∧ Hid (w6.ownsRow wo.heap.size 84 2 (.slice A5 m c5) m (cs ec (marks mk k 0 m)))) (fun j _ => m - (intOf j).toNat)
   case atStart => exact ⟨0, Nat.zero_le _, rfl, HB5.out, HM5.out, HO5.out⟩
   case round =>
    obtain ⟨jn, hjn, rfl, HB6, HM6, HO6⟩ := hrel
    by_cases hjlt : jn < m
    ·have hrk6 : ((markN mk k L).set k ⟨r.v, marks mk k 0 jn ++ r.ss.drop jn, r.m, r.mm⟩)[k]? = some ⟨r.v, marks mk k 0 jn ++ r.ss.drop jn, r.m, r.mm⟩ := by
      rw [List.getElem?_set_self]
      rw [markN_len, HN.out]; exact hlt
     have hlen6 : (marks mk k 0 jn ++ r.ss.drop jn).length = m := by rw [List.length_append, marks_len, List.length_drop, HMM.out]; omega
     have hov6 : wr.ownsRow 0 84 2 r.v (marks mk k 0 jn ++ r.ss.drop jn).length (cs ec (marks mk k 0 jn ++ r.ss.drop jn)) := (HB6.out.rows _ (List.mem_of_getElem? hrk6)).v
     obtain ⟨q, cq, hvq, _, hqlt⟩ := hov6.form (by omega)
     rw [hlen6] at hvq
     have hA3 : A3 = some ⟨q, 0, none⟩ := by have := HRV.out; rw [hvq] at this; injection this with h1 _ _; exact h1.symm
     have hcq : cq = c3 := by have := HRV.out; rw [hvq] at this; injection this
     subst hA3 hcq
     rw [hvq, hlen6] at hov6
     obtain ⟨qm, cm, hvm, _, hmlt⟩ := HO6.out.form (show 0 < m by omega)
     injection hvm with hA5 _ hcm
     subst hA5 hcm
     obtain ⟨xk, hxk⟩ : ∃ xk, mk (nm k jn) = xk := ⟨_, rfl⟩
     have hdm : ∀ j' v, (ec xk)[j']? = some v → wr.cell? ⟨qm, jn * 2 + j', none⟩ = some v := by
      intro j' v hv
      rw [← hxk] at hv
      have h9 := HO6.out.cells (g := qm) rfl _ _ (cs_get ec_len _ jn _ (marks_get k m jn hjlt) j' v hv)
      rw [Addr.add_lit, Nat.zero_add] at h9
      exact h9
     obtain ⟨curq, hbq, hcurq⟩ : ∃ curq, wr.heap[q]? = some (.cells curq 84 (0, 0)) ∧ jn * 2 + (ec xk).length ≤ curq.size := by
      rcases hov6.2 with ⟨h9, _⟩ | ⟨g9, cap9, cur9, h9, _, h10, h11, _, h12, _⟩
      ·cases h9
      ·injection h9 with h9 _ _
       injection h9 with h9
       injection h9 with h9 _ _
       subst h9
       refine ⟨cur9, h10, ?_⟩
       rw [h12, ec_len]
       omega
     have e06 : wr.cell? ⟨g, 8, none⟩ = some (.slice (some ⟨q1, 0, none⟩) n c1) := by have h9 := HB6.out.c0; exact HB6.out.cell h9
     have hot6 := HB6.out.ot
     have hmv6 : ((markN mk k L).set k ⟨r.v, marks mk k 0 jn ++ r.ss.drop jn, r.m, r.mm⟩).map KRow.v = L.map KRow.v := (set_map (f := KRow.v) (r' := ⟨r.v, marks mk k 0 jn ++ r.ss.drop jn, r.m, r.mm⟩) HRK.out rfl).trans (markN_v _ _ _)
     have hmm6 : ((markN mk k L).set k ⟨r.v, marks mk k 0 jn ++ r.ss.drop jn, r.m, r.mm⟩).map KRow.m = L.map KRow.m := (set_map (f := KRow.m) (r' := ⟨r.v, marks mk k 0 jn ++ r.ss.drop jn, r.m, r.mm⟩) HRK.out rfl).trans (markN_m _ _ _)
     rw [hmv6, List.length_set, markN_len, HN.out] at hot6
     obtain ⟨q1', c1', r6, e6, hr6, d06, _⟩ := row_at hot6 HN.out hlt
     injection e6 with ea6 _ ec6
     injection ea6 with ea6
     injection ea6 with ea6 _
     subst ea6 ec6
     have hr66 : r6 = r := by have := HR.out; rw [hr6] at this; injection this
     rw [hr66, HRV.out] at d06
     have hqS : q ∈ S := by rw [← HSS.out]; exact mem_bk.2 (.inr (.inr (.inr (mem_rowBlocks (List.mem_of_getElem? HR.out) (.inl (by rw [HRV.out]; rfl))))))
     have hqg : q ≠ g := fun e => HB6.out.sep.gR (by rw [rowBlocks_of hmv6 hmm6]; rw [← e]; exact mem_rowBlocks (List.mem_of_getElem? HR.out) (.inl (by rw [HRV.out]; rfl)))
     have hqq1 : q ≠ q1 := fun e => HB6.out.sep.TR q1 rfl (by rw [rowBlocks_of hmv6 hmm6]; rw [← e]; exact mem_rowBlocks (List.mem_of_getElem? HR.out) (.inl (by rw [HRV.out]; rfl)))
     have hqm : q ≠ qm := fun e => by
      have h1 := (HO6.out.lt qm rfl).1
      have h2 := HLT.out q hqS
      omega
     have b3 : (0 : Int) ≤ (jn : Int) := by omega
     have b4 : (jn : Int) < (m : Int) := by omega
     have HST := Lib.hid ((HB6.out.keep (w' := wr.drew) (fun _ _ => rfl)).store ec_len hrk6 (q := q) (c := cq) (by show r.v = .slice _ (marks mk k 0 jn ++ r.ss.drop jn).length _; rw [hlen6]; exact HRV.out) jn (by show jn < (marks mk k 0 jn ++ r.ss.drop jn).length; omega) xk)
     have HM7 := Lib.hid (Mv.setCells_ (ec xk) (jn * 2) (Mv.then_below' HM6.out (Below.refl wr.heap.size wr).drew) hqS)
     have HO7 := Lib.hid (own_keep' (w' := wr.drew.setCells q (jn * 2) (ec xk)) HO6.out (fun k' hk' => setCells_other q _ _ wr.drew _ (fun e => by have h1 := (HO6.out.lt k' hk').1; have h2 := HLT.out q hqS; have e' : k' = q := e; omega)))
     have HMS : Hid ((marks mk k 0 jn ++ r.ss.drop jn).set jn xk = marks mk k 0 (jn + 1) ++ r.ss.drop (jn + 1)) := by show _ = _; rw [← hxk]; exact marks_set k jn r.ss (by rw [HMM.out]; exact hjlt)
     have HDM := Lib.hid hdm; have HBQ := Lib.hid hbq; have HCQ := Lib.hid hcurq
     clear hrk6 hlen6 hov6 hvq hot6 hmv6 hr6 hr66 hqS HB6 HM6 HO6 hqlt hmlt hxk hdm hbq hcurq
     go_wp2
     refine wp_region_held_drew (S := fun X => X.cell? ⟨g, 8, none⟩ = some (.slice (some ⟨q1, 0, none⟩) n c1) ∧ X.cell? ⟨q1, k, none⟩ = some (.slice (some ⟨q, 0, none⟩) m cq) ∧ ∀ j' v, (ec xk)[j']? = some v → X.cell? ⟨qm, jn * 2 + j', none⟩ = some v) (by kernel_rfl) ⟨e06, d06, HDM.out⟩ (fun hHeld => ?_)
     refine tk (i := 0) (v := ?_) rfl (Or.inl ⟨by rfl, ?_⟩) ?_
     rotate_left
     ·intro X hSw; obtain ⟨s1, s2, s3⟩ := hSw; (try simp only [sD, sE, sF]); first | (go_simp; done) | (go_simp; with_reducible rfl)
     try simp only [Act.put, sA, sB, sC, sD, sE, sF]
     refine tk (i := 1) (v := ?_) rfl (Or.inl ⟨by rfl, ?_⟩) ?_
     rotate_left
     ·intro X hSw; obtain ⟨s1, s2, s3⟩ := hSw; (try simp only [sD, sE, sF]); first | (go_simp; done) | (go_simp; with_reducible rfl)
     try simp only [Act.put, sA, sB, sC, sD, sE, sF]
     refine tk (i := 2) (v := ?_) rfl (Or.inl ⟨by rfl, ?_⟩) ?_
     rotate_left
     ·intro X hSw; obtain ⟨s1, s2, s3⟩ := hSw; (try simp only [sD, sE, sF]); first | (go_simp; done) | (go_simp; with_reducible rfl)
     try simp only [Act.put, sA, sB, sC, sD, sE, sF]
     refine tk (i := 3) (v := ?_) rfl (Or.inl ⟨by rfl, ?_⟩) ?_
     rotate_left
     ·intro X hSw; obtain ⟨s1, s2, s3⟩ := hSw; (try simp only [sD, sE, sF]); first | (go_simp; done) | (go_simp; with_reducible rfl)
     try simp only [Act.put, sA, sB, sC, sD, sE, sF]
     refine tk (i := 4) (v := ?_) rfl (Or.inl ⟨by rfl, ?_⟩) ?_
     rotate_left
     ·intro X hSw; obtain ⟨s1, s2, s3⟩ := hSw; (try simp only [sD, sE, sF]); first | (go_simp; done) | (go_simp; with_reducible rfl)
     try simp only [Act.put, sA, sB, sC, sD, sE, sF]
     refine tk (i := 5) (v := ?_) rfl (Or.inl ⟨by rfl, ?_⟩) ?_
     rotate_left
     ·intro X hSw; obtain ⟨s1, s2, s3⟩ := hSw; (try simp only [sD, sE, sF]); first | (go_simp; done) | (go_simp; with_reducible rfl)
     try simp only [Act.put, sA, sB, sC, sD, sE, sF]
     refine tk (i := 6) (v := ?_) rfl (Or.inl ⟨by rfl, ?_⟩) ?_
     rotate_left
     ·intro X hSw; obtain ⟨s1, s2, s3⟩ := hSw; (try simp only [sD, sE, sF]); first | (go_simp; done) | (go_simp; with_reducible rfl)
     try simp only [Act.put, sA, sB, sC, sD, sE, sF]
     refine tk (i := 7) (v := ?_) rfl (Or.inl ⟨by rfl, ?_⟩) ?_
     rotate_left
     ·intro X hSw; obtain ⟨s1, s2, s3⟩ := hSw; (try simp only [sD, sE, sF]); first | (go_simp; done) | (go_simp; with_reducible rfl)
     try simp only [Act.put, sA, sB, sC, sD, sE, sF]
     refine tk (i := 8) (v := ?_) rfl (Or.inl ⟨by rfl, ?_⟩) ?_
     rotate_left
     ·intro X hSw; obtain ⟨s1, s2, s3⟩ := hSw; (try simp only [sD, sE, sF]); first | (go_simp; done) | (go_simp; with_reducible rfl)
     try simp only [Act.put, sA, sB, sC, sD, sE, sF]
     refine tk (i := 9) (v := ?_) rfl (Or.inl ⟨by rfl, ?_⟩) ?_
     rotate_left
     ·intro X hSw; obtain ⟨s1, s2, s3⟩ := hSw; (try simp only [sD, sE, sF]); first | (go_simp; done) | (go_simp; with_reducible rfl)
     try simp only [Act.put, sA, sB, sC, sD, sE, sF]
     refine tk (i := 10) (v := ?_) rfl (Or.inl ⟨by rfl, ?_⟩) ?_
     rotate_left
     ·intro X hSw; obtain ⟨s1, s2, s3⟩ := hSw; (try simp only [sD, sE, sF]); first | (go_simp; done) | (go_simp; with_reducible rfl)
     try simp only [Act.put, sA, sB, sC, sD, sE, sF]
     refine tk (i := 11) (v := .agg (ec xk).toArray) rfl (yields_cells (by rfl) 84 _ rfl ⟨qm, jn * 2, none⟩ rfl (ec xk) _ (fun _ h j' v hv => by rw [Addr.add_lit]; exact h.2.2 j' v hv) Tryz.underlying84 rfl size) ?_
     try simp only [Act.put, sA, sB, sC, sD, sE, sF]
     refine tk (i := 12) (v := ?_) rfl (Or.inl ⟨by rfl, ?_⟩) ?_
     rotate_left
     ·intro X hSw; obtain ⟨s1, s2, s3⟩ := hSw; (try simp only [sD, sE, sF]); first | (go_simp; done) | (go_simp; with_reducible rfl)
     try simp only [Act.put, sA, sB, sC, sD, sE, sF]
     refine wpAnyH_ready (rs := [13]) (by kernel_rfl) (by simp) (AllReadyH.cons rfl (fun K hK => ?_) AllReadyH.nil)
     try simp only [sD, sE, sF]
     refine step_store_part 84 _ _ rfl q (jn * 2) (ec xk) rfl rfl 84 curq HBQ.out size HCQ.out (ec_one xk) ?_
     refine hK.out _ _ ⟨(cell_setCells (by simpa using hqg.symm)).trans e06, (cell_setCells (by simpa using hqq1.symm)).trans d06, fun j' v hv => (cell_setCells (by simpa using hqm.symm)).trans (HDM.out j' v hv)⟩ (fun hHeld => ?_)
     clear hK K
     try simp only [Act.put, sA, sB, sC, sD, sE, sF]
     refine wpAnyH_done (by kernel_rfl) ?_ _
     have HBN : Hid (At g bc (.slice (some ⟨q1, 0, none⟩) n c1) wv ((markN mk k L).set k ⟨r.v, marks mk k 0 (jn + 1) ++ r.ss.drop (jn + 1), r.m, r.mm⟩) (wr.drew.setCells q (jn * 2) (ec xk))) := by
      show At _ _ _ _ _ _
      have := HST.out
      rw [List.set_set, HMS.out] at this
      exact this
     have HMN : Hid (Mv S S w (wr.drew.setCells q (jn * 2) (ec xk))) := HM7.out
     have HON : Hid ((wr.drew.setCells q (jn * 2) (ec xk)).ownsRow wo.heap.size 84 2 (.slice (some ⟨qm, 0, none⟩) m c5) m (cs ec (marks mk k 0 m))) := HO7.out
     clear HST HM7 HO7 HMS e06 d06 HDM HBQ HCQ hmm6
     go_wp2
     go_roundw
     case rel => exact ⟨jn + 1, hjlt, by go_num, HBN.out, HMN.out, HON.out⟩
     case measure => simp [intOf]; omega
    ·obtain rfl : jn = m := by omega
     have HBN : Hid (At g bc (.slice (some ⟨q1, 0, none⟩) n c1) wv (markN mk (k + 1) L) wr) := by
      show At _ _ _ _ _ _
      have := HB6.out
      rw [← HMM.out, List.drop_length, List.append_nil] at this
      rw [← markN_step mk k L HR.out]
      exact this
     clear HB6 HO6 HO5 HB5 HM5 HB HM
     go_wp2
     go_roundw
     case rel => exact ⟨k + 1, hlt, by go_num, HBN.out, HM6.out⟩
     case measure => simp [intOf]; omega
  ·obtain rfl : k = n := by omega
   go_wp2
   go_end0
   exact ⟨rfl, HB.out, HM.out⟩
end KPa
end Go.Proofs.YtnpkplegeddhcaaGreat
namespace Go.Proofs.YtnpkplegeddhcaaGreat
open Go.RowKit Kb
attribute [local go_sem ↓] Go.wp_at_zero Go.wp_at_succ
set_option maxRecDepth 100000
namespace KPa
set_option maxHeartbeats 8000000 in
theorem grow_any (g : Nat) (bc : Array Value) (tv wv : Value) (L : List (KRow Party)) (w : World) (h : At g bc tv wv L w) (hmk : ∀ k r, L[k]? = some r → r.ss = marks mk k 0 r.ss.length) (hsm : ∀ r ∈ L, r.ss.length ≤ 10000000) :
  Calls Tryz.prog 120 #[.pointer (some ⟨g, 0, none⟩)] w fun e w' => ∃ ov G, e = .returned ov ∧ G.length = L.length ∧ w'.ownsRow w.heap.size 35 1 ov L.length (G.map Prod.fst) ∧ Grown ec 2 84 mk L G w.heap.size w' ∧ At g bc tv wv L w' ∧ Mv (bkBlocks g tv wv L) (bkBlocks g tv wv L) w w' := by
 obtain ⟨i0, hinf, hz0, hz1, hz2⟩ := info_parts info
 obtain ⟨i1, hinf1, hy0, hy1, hy2⟩ := info_parts info_l
 obtain ⟨A1, c1, rfl, hc1⟩ := own_form h.ot
 obtain ⟨n, hn⟩ : ∃ n, L.length = n := ⟨_, rfl⟩
 have hl := h.len
 rw [hn] at hl hc1 ⊢
 have H := Lib.hid h; have HN := Lib.hid hn; have HMK := Lib.hid hmk; have HSM := Lib.hid hsm
 clear h hmk hsm
 rw [hn] at H
 clear hn
 obtain ⟨S, hS⟩ : ∃ S, bkBlocks g (.slice A1 n c1) wv L = S := ⟨_, rfl⟩
 have HSS := Lib.hid hS
 have HLT : Hid (∀ k, k ∈ S → k < w.heap.size) := by show ∀ k, _ → _; rw [← hS]; exact H.out.there
 rw [hS]
 clear hS
 go_enter Tryz.func120, Tryz.ntmps120
 go_wp2
 go_loopw [3, 4] (fun o i wr => ∃ (k : Nat) (G : List (Value × List Party)), k ≤ n ∧ i = .int .i64 k ∧ Hid (G.length = k) ∧ Hid (wr.ownsRow w.heap.size 35 1 o k (G.map Prod.fst)) ∧ Hid (Grown ec 2 84 mk L G w.heap.size wr) ∧ Hid (At g bc (.slice A1 n c1) wv L wr) ∧ Hid (Mv S S w wr)) (fun _ i _ => n - (intOf i).toNat)
 case atStart => exact ⟨0, [], Nat.zero_le _, rfl, rfl, World.ownsRow_nil _ _ _ _, ⟨by simp, by simp, by simp, by simp⟩, H.out, Mv.refl _ _⟩
 case round =>
  obtain ⟨k, G, hk, rfl, HGL, HO, HG, HB, HM⟩ := hrel
  have e0 : wr.cell? ⟨g, 8, none⟩ = some (.slice A1 n c1) := by have h9 := HB.out.c0; exact HB.out.cell h9
  by_cases hlt : k < n
  ·have hot := HB.out.ot
   rw [HN.out] at hot
   obtain ⟨q1, c1', r, e, hr, d0, hcc⟩ := row_at hot HN.out hlt
   injection e with ea _ ec
   subst ea ec
   have hrow := HB.out.rows r (List.mem_of_getElem? hr)
   have hov : wr.ownsRow 0 84 2 r.v r.ss.length (cs ec r.ss) := hrow.v
   have hlv := HSM.out r (List.mem_of_getElem? hr)
   have HG0 := Lib.hid (GrowAt.first HB.out hr (HMK.out k r hr))
   obtain ⟨A3, c3, hrv, hc3⟩ := own_form hov
   obtain ⟨m, hm⟩ : ∃ m, r.ss.length = m := ⟨_, rfl⟩
   rw [hm] at hlv hrv hc3 HG0
   have d1 := d0
   rw [hrv] at d1
   have b1 : (0 : Int) ≤ (k : Int) := by omega
   have b2 : (k : Int) < (n : Int) := by omega
   have HRV := Lib.hid hrv; have HMM := Lib.hid hm; have HR := Lib.hid hr
   obtain ⟨wo, hwo⟩ : ∃ wo : World, wo = wr := ⟨_, rfl⟩
   subst hwo
   clear hot hrow hov hrv hm hr d0
   go_wp2
   go_loopw [5, 6] (fun l j w6 => ∃ (jn p c : Nat) (A : Option Addr), jn ≤ 12 ∧ Hid (p = m + jn) ∧ p ≤ m + 12 ∧ j = .int .i64 jn ∧ l = .slice A p c ∧ p ≤ c ∧ Hid (GrowAt ec 2 84 mk r.v l r.ss k p wo.heap.size w6) ∧ Hid (Mv r.v.ownBlock.toList r.v.ownBlock.toList wo w6)) (fun _ j _ => 12 - (intOf j).toNat)
   case atStart => exact ⟨0, m, c3, A3, by omega, rfl, by omega, rfl, rfl, hc3, by rw [HRV.out] at HG0 ⊢; exact HG0.out, Mv.refl _ _⟩
   case round =>
    obtain ⟨jn, p, c, A, hj, HP, hpm, rfl, rfl, hpc, HGA, HM6⟩ := hrel
    have hz6 : wo.heap.size ≤ wr.heap.size := HM6.out.size
    by_cases hjlt : jn < 12
    ·have qm := mark_any k p 1 (by omega) (by omega) (by omega) wr
     clear e0 d1
     go_wp2_with fail
     refine qm.mono ?_
     rintro e w7 ⟨v7, rfl, ho7, hb7⟩
     obtain ⟨A7, c7, rfl, hc7⟩ := own_form ho7
     have HG7 := Lib.hid (HGA.out.below hb7)
     have HM7 := Lib.hid (Mv.then_ HM6.out hb7)
     have hz7 : wr.heap.size ≤ w7.heap.size := hb7.size
     have hol := HG7.out.ol
     have hrd := Reads.of_own ho7
     clear qm hb7 HGA HM6
     go_wp2_with (at_builtin; refine wpList_append_keep rfl _ _ 35 rfl 0 84 i0 (.agg #[.string ⟨#[]⟩, .int .i64 0]) 2 24 Tryz.underlying35 hinf hz0 hz1 hz2 rfl (by decide) (.slice A p c) p (cs ec (marks mk k 0 p)) rfl hol w7.heap.size A7 1 c7 (cs ec (marks mk k p 1)) rfl hrd ?d2 ?d3 ?d4 (Nat.zero_le _) ?_)
     case d2 => exact fun u hu => cs_ones ec_one _ u hu
     case d3 => unfold maxLen; omega
     case d4 => omega
     intro v8 w8 ho8 hk8 hg8 hl8
     have HG8 := Lib.hid (HG7.out.step ho8 hk8 hg8 hl8 (by omega))
     have HM8 := Lib.hid (Mv.step HM7.out hg8 (fun q hq => by
      rcases HG7.out.at_ with e | e
      ·exact .inl (by rw [← e, hq]; simp)
      ·exact .inr (e q hq)))
     obtain ⟨A8, c8, rfl, hc8⟩ := own_form ho8
     clear ho8 hk8 hg8 hl8 hol hrd ho7 HG7 HM7
     go_wp2
     go_roundw
     case rel => exact ⟨jn + 1, p + 1, c8, A8, hjlt, by show _ = _; have := HP.out; omega, by have := HP.out; omega, by go_num, rfl, hc8, HG8.out, HM8.out⟩
     case measure => simp [intOf]; omega
    ·have qm := mark_any k p 60 (by omega) (by omega) (by omega) wr
     clear e0 d1
     go_wp2_with fail
     refine qm.mono ?_
     rintro e w7 ⟨v7, rfl, ho7, hb7⟩
     obtain ⟨A7, c7, rfl, hc7⟩ := own_form ho7
     have HG7 := Lib.hid (HGA.out.below hb7)
     have HM7 := Lib.hid (Mv.then_ HM6.out hb7)
     have hz7 : wr.heap.size ≤ w7.heap.size := hb7.size
     have hol := HG7.out.ol
     have hrd := Reads.of_own ho7
     clear qm hb7 HGA HM6
     go_wp2_with (at_builtin; refine wpList_append_keep rfl _ _ 35 rfl 0 84 i0 (.agg #[.string ⟨#[]⟩, .int .i64 0]) 2 24 Tryz.underlying35 hinf hz0 hz1 hz2 rfl (by decide) (.slice A p c) p (cs ec (marks mk k 0 p)) rfl hol w7.heap.size A7 60 c7 (cs ec (marks mk k p 60)) rfl hrd ?d2 ?d3 ?d4 (Nat.zero_le _) ?_)
     case d2 => exact fun u hu => cs_ones ec_one _ u hu
     case d3 => unfold maxLen; omega
     case d4 => omega
     intro v8 w8 ho8 hk8 hg8 hl8
     have HG8 := Lib.hid (HG7.out.step ho8 hk8 hg8 hl8 (by omega))
     have HM8 := Lib.hid (Mv.step HM7.out hg8 (fun q hq => by
      rcases HG7.out.at_ with e | e
      ·exact .inl (by rw [← e, hq]; simp)
      ·exact .inr (e q hq)))
     have hz8 : w7.heap.size ≤ w8.heap.size := hg8.size
     obtain ⟨A8, c8, rfl, hc8⟩ := own_form ho8
     have hout := own_keep' HO.out (fun q hq => HM8.out.block q (HO.out.lt q hq).2 (fun e => by
      have h1 := (HO.out.lt q hq).1
      have h2 := HLT.out q (by rw [← HSS.out]; exact mem_bk.2 (.inr (.inr (.inr (mem_rowBlocks (List.mem_of_getElem? HR.out) (.inl (by simpa using e)))))))
      omega))
     have hzw : w.heap.size ≤ w8.heap.size := by have := HM.out.size; omega
     clear ho8 hk8 hg8 hl8 hol hrd ho7 HG7 HM7
     go_wp2_with (at_builtin; refine wpList_append_any _ rfl _ _ 47 rfl w.heap.size 35 i1 (.slice none 0 0) 1 24 Tryz.underlying47 hinf1 hy0 hy1 hy2 rfl (by decide) _ k (G.map Prod.fst) rfl (hout.alloc _) (w8.heap.size + 1) (some ⟨w8.heap.size, 0, none⟩) 1 1 [.slice A8 (p + 60) c8] rfl ?d5 ?d6 ?d7 ?d8 ?d9 ?_)
     case d5 => exact reads_newV w8 _ _ _ rfl rfl rfl (Nat.lt_succ_self _)
     case d6 => simp [Value.oneCell']
     case d7 => unfold maxLen; omega
     case d8 => omega
     case d9 => simp; omega
     intro v9 w9 ho9 hg9 hl9
     have hS := HSS.out
     have hnx := grown_next (HB.out) HG.out (by rw [hS]; exact HLT.out) HGL.out HR.out (by rw [hS]; exact HM.out) HO.out HM8.out HG8.out (by omega) hg9 (by decide) ho9
     rw [hS] at hnx
     have HNX := Lib.hid hnx
     clear hnx ho9 hg9 hl9 hout hS HB HG HO HM8 HG8
     go_wp2
     go_roundw
     case rel => exact ⟨k + 1, G ++ [(Value.slice A8 (p + 60) c8, marks mk k 0 (p + 60))], hlt, by go_num, HNX.out.1, HNX.out.2.1, HNX.out.2.2.1, HNX.out.2.2.2.1, HNX.out.2.2.2.2⟩
     case measure => simp [intOf]; omega
  ·obtain rfl : k = n := by omega
   go_wp2
   go_ret
   exact ⟨_, G, rfl, HGL.out, HO.out, HG.out, HB.out, HM.out⟩
theorem same_marks (i m : Nat) (ss : List Party) (hs : ss = marks mk i 0 m) (A A' : Option Addr) (c c' B : Nat) (w : World) (hr : Reads w B 2 A m (cs ec ss)) (hr' : Reads w B 2 A' m (cs ec (marks mk i 0 m))) (hl : m ≤ 9223372036854775807) :
  Calls Tryz.prog 43 #[.slice A m c, .slice A' m c'] w fun e w' => e = .returned (.bool true) ∧ ∃ q, w' = w.drewN q := by
 subst hs
 exact same_any (marks mk i 0 m) m (marks_len _ _ _) hl A A' c c' B B w hr hr'
set_option maxHeartbeats 4000000 in
theorem marked_any (B B' : Nat) (tv : Value) (L : List (Value × List Party)) (w : World) (hw : w.ownsRow B 35 1 tv L.length (L.map Prod.fst)) (hL : L.length ≤ 250)
  (hr : ∀ r ∈ L, w.ownsRow B' 84 2 r.1 r.2.length (cs ec r.2) ∧ r.2.length ≤ 100000000)
  (hm : ∀ k r, L[k]? = some r → r.2 = marks mk k 0 r.2.length) :
  Calls Tryz.prog 137 #[tv] w fun e w' => e = .returned (.bool true) ∧ Below w.heap.size w w' := by
 obtain ⟨A1, c1, rfl, hc1⟩ := own_form hw
 obtain ⟨n, hn⟩ : ∃ n, L.length = n := ⟨_, rfl⟩
 rw [hn] at hL hc1 hw ⊢
 have HR := Lib.hid hr; have HM := Lib.hid hm; have HN := Lib.hid hn; have HW := Lib.hid hw
 clear hr hm hn hw
 go_enter Tryz.func137, Tryz.ntmps137
 go_wp2
 go_loopw [3] (fun i wr => ∃ k : Nat, k ≤ n ∧ i = .int .i64 k ∧ Hid (Below w.heap.size w wr)) (fun i _ => n - (intOf i).toNat)
 case atStart => exact ⟨0, Nat.zero_le _, rfl, Below.refl _ _⟩
 case round =>
  obtain ⟨k, hk, rfl, HB⟩ := hrel
  by_cases hlt : k < n
  ·have hot := own_below HW.out HB.out (fun k hk => (HW.out.lt k hk).2)
   obtain ⟨q, hq⟩ : ∃ q, A1 = some ⟨q, 0, none⟩ := by
    obtain ⟨q, c, e, _, _⟩ := hot.form (by omega)
    injection e with e _ _
    exact ⟨q, e⟩
   subst hq
   have hkL : k < L.length := by have := HN.out; omega
   have hrk : L[k]? = some L[k] := List.getElem?_eq_getElem hkL
   obtain ⟨r, hrr⟩ : ∃ r, L[k]? = some r := ⟨_, hrk⟩
   obtain ⟨ho, hl⟩ := HR.out r (List.mem_of_getElem? hrr)
   have hmk := HM.out k r hrr
   have d0 : wr.cell? ⟨q, k, none⟩ = some r.1 := by
    have := hot.cellAt k (by omega)
    rw [List.getElem?_map, hrr] at this
    exact this
   have ho2 := own_below ho HB.out (fun k hk => (ho.lt k hk).2)
   obtain ⟨A3, c3, hrv, hc3⟩ := own_form ho
   obtain ⟨m, hm⟩ : ∃ m, r.2.length = m := ⟨_, rfl⟩
   rw [hm] at hl hrv hc3 hmk ho2
   rw [hrv] at d0 ho2
   have hqlt : q < wr.heap.size := (hot.lt q rfl).2
   have b1 : (0 : Int) ≤ (k : Int) := by omega
   have b2 : (k : Int) < (n : Int) := by omega
   have qm := mark_any k 0 m (by omega) (by omega) (by omega)
   have HO2 := Lib.hid ho2
   have HMK := Lib.hid hmk
   clear hrk hrr ho hot ho2 hrv hm hmk
   go_wp2
   go_region_held3 (fun W => W.cell? ⟨q, k, none⟩ = some (.slice A3 m c3))
    (first | exact d0 | exact d1 | exact d2)
    (first
     | (go_at_call 186; refine (qm _).mono ?_; rintro e w5 ⟨v5, rfl, ho5, hb5⟩; have d1 : w5.cell? ⟨q, k, none⟩ = some (.slice A3 m c3) := (hb5.cell (show q < _ from hqlt)).trans d0; obtain ⟨A5, c5, rfl, hc5⟩ := own_form ho5; have hb5' : Below wr.heap.size wr w5 := (by first | exact hb5 | exact (Below.refl wr.heap.size wr).drew.trans hb5); have ho6 := own_below HO2.out hb5' (fun k hk => (HO2.out.lt k hk).2))
     | (go_at_call 43; (with_reducible refine (same_marks k m r.2 HMK.out A3 A5 c3 c5 w5.heap.size w5 (Reads.of_own ho6) (Reads.of_own ho5) (by omega)).mono ?_); rintro e w6 ⟨rfl, qq, rfl⟩; have d2 : (w5.drewN qq).cell? ⟨q, k, none⟩ = some (.slice A3 m c3) := d1))
   all_goals
    go_wp2
    exact ⟨⟨k + 1, hlt, by go_num, drewN_below (HB.out.trans ⟨hb5'.os, hb5'.tape, hb5'.output, hb5'.size, fun g hg => hb5'.block g (Nat.lt_of_lt_of_le hg HB.out.size)⟩) qq⟩, by simp [intOf]; omega⟩
  ·obtain rfl : k = n := by omega
   go_wp2
   go_ret
   exact ⟨rfl, HB.out⟩
theorem marked_book {g : Nat} {bc : Array Value} {tv wv : Value} {L : List (KRow Party)} {w : World} (h : At g bc tv wv L w) (hm : ∀ k r, L[k]? = some r → r.ss = marks mk k 0 r.ss.length) (hs : ∀ r ∈ L, r.ss.length ≤ 10000000) :
  Calls Tryz.prog 137 #[tv] w fun e w' => e = .returned (.bool true) ∧ Below w.heap.size w w' := by
 refine marked_any 0 0 tv (pairsOf L) w ?_ (by simpa [pairsOf] using h.len) ?_ ?_
 ·have e : (pairsOf L).map Prod.fst = L.map KRow.v := by simp [pairsOf]
  rw [e, show (pairsOf L).length = L.length by simp [pairsOf]]
  exact h.ot
 ·intro r hr
  unfold pairsOf at hr
  obtain ⟨t, ht, rfl⟩ := List.mem_map.1 hr
  exact ⟨(h.rows t ht).v, Nat.le_trans (hs t ht) (by decide)⟩
 ·intro k r hr
  unfold pairsOf at hr
  rw [List.getElem?_map] at hr
  cases ht : L[k]? with
  | none => rw [ht] at hr; cases hr
  | some t =>
   rw [ht] at hr
   simp only [Option.map_some, Option.some.injEq] at hr
   subst hr
   exact hm k t ht
end KPa
end Go.Proofs.YtnpkplegeddhcaaGreat
namespace Go.Proofs.YtnpkplegeddhcaaGreat
open Go.RowKit Kb
set_option maxRecDepth 100000

namespace KPa
/-- What stands behind a list that is lent. -/
def lm : Party := ⟨⟨#[]⟩, -77⟩
set_option maxHeartbeats 2000000 in
theorem lent_any (l : List Party) (A : Option Addr) (c B : Nat) (w : World) (hr : Reads w B 2 A l.length (cs ec l)) (hl : l.length ≤ 9000) :
  Calls Tryz.prog 10 #[.slice A l.length c] w fun e w' => ∃ g cap, e = .returned (.slice (some ⟨g, 0, none⟩) l.length cap) ∧ l.length + 1 ≤ cap ∧ cap ≤ 9223372036854775807 ∧ w.heap.size ≤ g ∧ g < w'.heap.size ∧ Reads w' w'.heap.size 2 (some ⟨g, 0, none⟩) (l.length + 1) (cs ec (l ++ [lm])) ∧ Below w.heap.size w w' := by
 obtain ⟨i0, hi, hz0, hz1, hz2⟩ := info_parts info
 obtain ⟨n, hn⟩ : ∃ n, l.length = n := ⟨_, rfl⟩
 rw [hn] at hr hl ⊢
 have Hn := Lib.hid hn; clear hn
 have Hr := Lib.hid hr; clear hr
 go_enter Tryz.func10, Tryz.ntmps10
 go_wp2_with (at_builtin; refine wpList_append_any _ rfl _ _ 35 rfl w.heap.size 84 i0 (.agg #[.string ⟨#[]⟩, .int .i64 0]) 2 24 Tryz.underlying35 hi hz0 hz1 hz2 rfl (by decide) _ _ _ rfl (World.ownsRow_nil w w.heap.size _ 2) B A n c (cs ec l) rfl ?c1 ?c2 ?c3 ?c4 ?c5 ?_)
 case c1 => exact Hr.out
 case c2 => exact cs_ones ec_one l
 case c3 => unfold maxLen; omega
 case c4 => omega
 case c5 => exact Nat.le_refl _
 intro v3 w3 hown3 hgrow3 hlink3
 have hm3 : Mv [] v3.ownBlock.toList w w3 := (Mv.refl [] w).grown hgrow3 (by intro k hk; simp [Value.ownBlock] at hk) (fun k hk => by
  rcases hlink3 with h | h
  ·rw [h] at hk; simp [Value.ownBlock] at hk
  ·rw [h] at hk; simp at hk; right; omega)
 have hz3 := hgrow3.size
 have HM3 := Lib.hid hm3
 clear hgrow3 hlink3 hm3
 go_wp2_with (at_builtin; refine wpList_append_any _ rfl _ _ 35 rfl w.heap.size 84 i0 (.agg #[.string ⟨#[]⟩, .int .i64 0]) 2 24 Tryz.underlying35 hi hz0 hz1 hz2 rfl (by decide) _ _ _ rfl (hown3.alloc _) (w3.heap.size + 1) (some ⟨w3.heap.size, 0, none⟩) 1 1 [.string ⟨#[]⟩, .int .i64 (-77)] rfl ?d1 ?d2 ?d3 ?d4 ?d5 ?_)
 case d1 => exact reads_newN w3 [.string ⟨#[]⟩, .int .i64 (-77)] _ _ rfl rfl
 case d2 => simp [Value.oneCell']
 case d3 => unfold maxLen; omega
 case d4 => omega
 case d5 => simp; omega
 intro v4 w4 hown4 hgrow4 hlink4
 have hm4 : Mv [] v4.ownBlock.toList w w4 := (HM3.out.alloc _).grown hgrow4 (by intro k hk; simp [hk]) (fun k hk => by
  rcases hlink4 with h | h
  ·rw [h] at hk; exact .inl hk
  ·rw [h] at hk; simp at hk; right; simp; omega)
 have hb4 := hm4.below (B := w.heap.size) (by simp) (Nat.le_refl _)
 have HB4 := Lib.hid hb4
 clear hgrow4 hlink4 hm4 hb4 HM3 hown3
 obtain ⟨g, cap, cur, rfl, hbg, hh, hcap, hmax, _⟩ : ∃ g cap cur, v4 = .slice (some ⟨g, 0, none⟩) (n + 1) cap ∧ w.heap.size ≤ g ∧ w4.heap[g]? = some (.cells cur 84 (0, 0)) ∧ n + 1 ≤ cap ∧ cap ≤ maxLen ∧ True := by
  rcases hown4.2 with ⟨_, h0⟩ | ⟨g, cap, cur, h1, h2, h3, h4, h5, _⟩
  ·omega
  ·exact ⟨g, cap, cur, h1, h2, h3, h4, h5, trivial⟩
 unfold maxLen at hmax
 have HRD : Hid (Reads w4 w4.heap.size 2 (some ⟨g, 0, none⟩) (n + 1) (cs ec (l ++ [lm]))) := by
  have h := Reads.of_own hown4
  show Reads _ _ _ _ _ _
  rw [cs_append, cs_one]
  exact h
 have HG := Lib.hid (Blk.lt (t := 84) hh)
 clear hown4 hh
 go_wp2
 go_ret
 exact ⟨g, cap, rfl, hcap, hmax, hbg, HG.out, HRD.out, HB4.out⟩
set_option maxHeartbeats 2000000 in
theorem stays_any (l : List Party) (g cap : Nat) (A : Option Addr) (c B B1 : Nat) (w : World) (n : Nat) (hn : l.length = n) (hcap : n + 1 ≤ cap) (hr : Reads w B1 2 (some ⟨g, 0, none⟩) (n + 1) (cs ec (l ++ [lm]))) (hr' : Reads w B 2 A n (cs ec l)) (hl : n ≤ 9000) (_ : cap ≤ 9223372036854775807) :
  Calls Tryz.prog 13 #[.slice (some ⟨g, 0, none⟩) n cap, .slice A n c] w fun e w' => e = .returned (.bool true) ∧ ∃ q, w' = w.drewN q := by
 have hfirst : Reads w B1 2 (some ⟨g, 0, none⟩) n (cs ec l) := by
  refine ⟨by rw [cs_len ec_len, hn], fun _ => ?_⟩
  obtain ⟨ad, e, hb, hc⟩ := hr.2 (by omega)
  refine ⟨ad, e, hb, fun j u hu => hc j u ?_⟩
  rw [cs_append, List.getElem?_append_left (List.getElem?_eq_some_iff.1 hu).1]
  exact hu
 have hlast : w.cell? ⟨g, n * 2 + 1, none⟩ = some (.int .i64 (-77)) := by
  obtain ⟨ad, e, hb, hc⟩ := hr.2 (by omega)
  injection e with e
  subst e
  have h := hc (n * 2 + 1) (.int .i64 (-77)) (by
   rw [cs_append, cs_one, List.getElem?_append_right (by rw [cs_len ec_len, hn]; omega), cs_len ec_len, hn, show n * 2 + 1 - n * 2 = 1 by omega]
   rfl)
  rw [Addr.add_lit, Nat.zero_add] at h
  exact h
 have HSM := same_any l n hn (by omega) (some ⟨g, 0, none⟩) A cap c B1 B w hfirst hr'
 clear hr hr' hfirst hn
 go_enter Tryz.func13, Tryz.ntmps13
 go_wp2_with fail
 refine HSM.mono ?_
 rintro e w1 ⟨rfl, q, hq⟩
 have hl2 : w1.cell? ⟨g, n * 2 + 1, none⟩ = some (.int .i64 (-77)) := by rw [hq]; exact hlast
 have HQ := Lib.hid hq
 clear HSM hlast hq
 go_wp2
 go_ret
 exact ⟨rfl, q, HQ.out⟩
end KPa
end Go.Proofs.YtnpkplegeddhcaaGreat
