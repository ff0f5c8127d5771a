/-
  The walk of InstBytes: every instruction as bytes; every bytes as an instruction and a term.
  Conditions: an instruction, bytes.
-/
import Derived.Test.YtkcecijepbceiaaInstPut2
import Derived.Test.YtkcecijepbceiaaRefPut
import Derived.Test.YtkcecijepbceiaaRget
import Derived.Great.BuildSlice
namespace Go.Proofs.Ytkcecijepbceiaa
open Go.RowKit

/-- Two writers beside each other, and what is put. -/
structure Prx (g h B b : Nat) (x : Ins) (S T : List Nat) (s t : Wire.St) (w0 w : World) : Prop where
  pa : WrAt g S s.1 s.2 w
  pb : RwAt h T t.1 t.2 w
  la : ∀ k ∈ S, B ≤ k
  lb : ∀ k ∈ T, B ≤ k
  ap : ∀ k ∈ S, k ∉ T
  kc : w.heap[b]? = some (.cells x.cells 25 (0, 0))
  na : b ∉ S
  nb : b ∉ T
  bel : Below B w0 w
  size : B ≤ w.heap.size
section
variable {g h B b : Nat} {x : Ins} {S T S' T' : List Nat} {s t s' t' : Wire.St} {w0 w w' : World}
theorem Prx.wr (p : Prx g h B b x S T s t w0 w) (hw : WrAt g S' s'.1 s'.2 w') (hm : Mv S S' w w') : Prx g h B b x S' T s' t w0 w' :=
  ⟨hw, p.pb.keep (fun k hk => hm.block k (p.pb.there k hk) (fun e => p.ap k e hk)), hm.low p.la p.size, p.lb, fun k hk hT => (hm.link k hk).elim (fun e => p.ap k e hT) (fun e => by have := p.pb.there k hT; omega),
    (hm.block b (Blk.lt (t := 25) p.kc) p.na).trans p.kc, fun e => (hm.link b e).elim p.na (fun e => by have := Blk.lt (t := 25) p.kc; omega), p.nb, p.bel.trans (hm.below p.la p.size), Nat.le_trans p.size hm.size⟩
theorem Prx.rw' (p : Prx g h B b x S T s t w0 w) (hw : RwAt h T' t'.1 t'.2 w') (hm : Mv T T' w w') : Prx g h B b x S T' s t' w0 w' :=
  ⟨p.pa.keep (fun k hk => hm.block k (p.pa.there k hk) (p.ap k hk)), hw, p.la, hm.low p.lb p.size, fun k hk hT => (hm.link k hT).elim (fun e => p.ap k hk e) (fun e => by have := p.pa.there k hk; omega),
    (hm.block b (Blk.lt (t := 25) p.kc) p.nb).trans p.kc, p.na, fun e => (hm.link b e).elim p.nb (fun e => by have := Blk.lt (t := 25) p.kc; omega), p.bel.trans (hm.below p.lb p.size), Nat.le_trans p.size hm.size⟩
end
theorem rw_new (w : World) : RwAt w.heap.size [w.heap.size] 0 [] (w.alloc (.cells #[.slice none 0 0, .int .i64 0] 41)) :=
  ⟨.slice none 0 0, by simp [Value.ownBlock], heap_alloc_new _ _, World.ownsRow_nil _ _ _ _, by simp [Value.ownBlock]⟩
theorem two_fill (x : Ins) : ((Try.prog.info? 25).bind fun ie => ie.zero.bind fun z => if 2 * ie.size > 2 ^ 24 ∨ 2 * ie.size = 0 then none else Instr.fill (fun i => some (i * ie.size, ie.size)) ((Array.range (2 * ie.size)).map (z.cells[· % z.cells.size]!)) [(0, .agg x.cells), (1, .agg x.cells)]) = some (x.cells ++ x.cells) := by
  unfold Ins.cells
  kernel_rfl
theorem wpList_build_two {ops : Array Oper} {rest : List Oper} {o : Oper} {a : Act} {w : World} {Q : Exit → Act → World → Prop} (hg : o.guard = none) (x : Ins) (p q : Operand) (ho : o.op = .buildSlice 91 2 #[(0, p), (1, q)]) (hp : a.eval p = .agg x.cells) (hq : a.eval q = .agg x.cells)
    (h : wpList Try.prog ops Q rest (a.put o.dst (.slice (some ⟨w.heap.size, 0, none⟩) 2 2)) (w.alloc (.cells (x.cells ++ x.cells) 25))) : wpList Try.prog ops Q (o :: rest) a w := by
  have hf := two_fill x
  cases hi : Try.prog.info? 25 with
  | none => rw [hi] at hf; cases hf
  | some ie =>
    rw [hi, Option.bind_some] at hf
    cases hz : ie.zero with
    | none => rw [hz] at hf; cases hf
    | some z =>
      rw [hz, Option.bind_some] at hf
      split at hf
      · cases hf
      · rename_i hn
        refine wpList_buildSlice hg 91 25 2 #[(0, p), (1, q)] ho (x.cells ++ x.cells) ie z Try.underlying91 hi hz (fun h => hn (.inl h)) (fun h => hn (.inr h)) ?_ h
        refine (congrArg _ ?_).trans hf
        simp [hp, hq]
theorem cutAt_all (s : ByteArray) : cutAt s 0 = s := bytes_ext (by rw [cutAt_list, List.drop_zero])
theorem World.setRow_alloc_prev (w : World) (c c' : Array Value) (t : TypeId) (o : Obj) : ((w.alloc (.cells c t)).alloc o).setRow w.heap.size c' = (w.alloc (.cells c' t)).alloc o := by
  simp only [World.setRow, World.alloc]
  congr 1
  apply Array.ext_getElem?
  intro i
  rw [Array.getElem?_modify]
  by_cases h : w.heap.size = i
  · subst h
    simp [Array.getElem?_push]
  · have h' : ¬ i = w.heap.size := fun e => h e.symm
    simp [h, h', Array.getElem?_push]
/-- A struct stored whole into the block before the last one. -/
theorem wpList_store_prev {P : Program} {ops : Array Oper} {rest : List Oper} {o : Oper} {a : Act} {Q : Exit → Act → World → Prop} (hw : Region.wanted o (yielded ops a.tmps) = true) (ty : TypeId) (x y : Operand) (ho : o.op = .store ty x y)
    (w : World) (t : TypeId) (old cells : Array Value) (b : Obj) (hx : a.eval x = .pointer (some ⟨w.heap.size, 0, none⟩)) (hy : a.eval y = .agg cells)
    (hi : (P.info? ty).map (·.size) = some cells.size) (hold : old.size = cells.size) (h1 : cells.all (·.oneCell') = true)
    (h : wpList P ops Q rest (a.put o.dst undef) ((w.alloc (.cells cells t)).alloc b)) : wpList P ops Q (o :: rest) a ((w.alloc (.cells old t)).alloc b) :=
  BigFrame.wpList_want hw fun _ hK => wp_store_row ty x y ho w.heap.size cells hx hy t old ((Below.heap_alloc _ _ _ (by simp)).trans (heap_alloc_new w _)) hi hold h1 (by rw [World.setRow_alloc_prev]; exact hK _ _ h)
theorem new_second (w : World) (b : Obj) (c : Array Value) (t : TypeId) : ((w.alloc b).alloc (.cells c t)).heap[w.heap.size + 1]? = some (.cells c t (0, 0)) := by
  have h := heap_alloc_new (w.alloc b) (.cells c t)
  simpa using h
theorem set_second (w : World) (b : Obj) (c c' : Array Value) (t : TypeId) : ((w.alloc b).alloc (.cells c t)).setRow (w.heap.size + 1) c' = (w.alloc b).alloc (.cells c' t) := by
  have h := World.setRow_alloc_new (w.alloc b) c c' t
  simpa using h
/-- Two structs that are the same, compared in a region that draws its order. -/
theorem yieldsIf_same {ops : Array Oper} {S : World → Prop} {op : Oper} {a : Act} (hw : Region.wanted op (yielded ops a.tmps) = true) (T : TypeId) (x y : Operand) (z : TypeId) (c : BinOp) (hc : c = .eql ∨ c = .neq) (ho : op.op = .binOp c T x y z)
    (cs : Array Value) (hx : a.eval x = .agg cs) (hy : a.eval y = .agg cs) (hg : Try.prog.eqGuardType Try.prog.depth T = false) (hrun : ∀ w, (Op.equalIn 10000 T (.agg cs) (.agg cs)).run Try.prog w = .ok true w) : YieldsIf Try.prog ops S op (.bool (decide (c = .eql))) a :=
  .inl ⟨hw, fun w _ => by
    have h1 := run_eqGuard_agg (P := Try.prog) w c T x y cs cs hg
    unfold execOp
    rcases hc with rfl | rfl
    · have h2 := run_eql_struct (P := Try.prog) w T cs cs
      rw [hrun] at h2
      simp only [ho, hx, hy, Sem.run_bind, h1, h2, Result.andThen_ok]
      rfl
    · have h2 := run_neq_struct (P := Try.prog) w T cs cs
      rw [hrun] at h2
      simp only [ho, hx, hy, Sem.run_bind, h1, h2, Result.andThen_ok]
      rfl⟩
theorem yieldsIf_load_row {P : Program} {ops : Array Oper} {S : World → Prop} {op : Oper} {a : Act} (hw : Region.wanted op (yielded ops a.tmps) = true) (ty : TypeId) (x : Operand) (ho : op.op = .load ty x)
    (g : Nat) (hx : a.eval x = .pointer (some ⟨g, 0, none⟩)) (t : TypeId) (cs : Array Value) (d : TypeDesc) (hS : ∀ w, S w → w.heap[g]? = some (.cells cs t (0, 0)))
    (hu : P.underlying ty = some d) (hd : (match d with | .struct _ | .array _ _ => true | _ => false) = true) (hi : (P.info? ty).map (·.size) = some cs.size) : YieldsIf P ops S op (.agg cs) a :=
  .inl ⟨hw, fun w hw' => by
    unfold execOp
    simp only [ho, hx, Instr.loadAt, Instr.sureAddr, Sem.run_bind, Sem.run_pure, Result.andThen_ok, run_loadVar_row w g t ty cs (0, 0) d (hS w hw') hu hd hi]⟩
/-- Two readers beside each other. -/
structure Rdp (g h B : Nat) (s : ByteArray) (r : Rd) (w0 w : World) : Prop where
  pa : RdAt g r.e s r.k w
  pb : RcAt h s r w
  la : B ≤ g
  lb : B ≤ h
  ne : g ≠ h
  bel : Below B w0 w
  size : B ≤ w.heap.size
section
variable {g h B : Nat} {s : ByteArray} {r r' : Rd} {w0 w w' : World}
theorem Rdp.low (p : Rdp g h B s r w0 w) (hb : Below w.heap.size w w') : Rdp g h B s r w0 w' :=
  ⟨p.pa.below hb, p.pb.below hb, p.la, p.lb, p.ne, p.bel.trans (hb.mono p.size), Nat.le_trans p.size hb.size⟩
theorem Rdp.drewN (p : Rdp g h B s r w0 w) (n : Nat) : Rdp g h B s r w0 (w.drewN n) := p.low (drewN_below (Below.refl _ _) n)
/-- Both have read: the one, then the other. -/
theorem Rdp.both (p : Rdp g h B s r w0 w) {v v' : World} (h1 : RdAt g r'.e s r'.k v) (m1 : Mv [g] [g] w v) (h2 : RcAt h s r' v') (m2 : Mv [h] [h] v v') : Rdp g h B s r' w0 v' :=
  ⟨h1.aside m2 (by simp; exact p.ne), h2, p.la, p.lb, p.ne, (p.bel.trans (m1.below (fun k hk => by simp at hk; rw [hk]; exact p.la) p.size)).trans (m2.below (fun k hk => by simp at hk; rw [hk]; exact p.lb) (Nat.le_trans p.size m1.size)), Nat.le_trans p.size (Nat.le_trans m1.size m2.size)⟩
theorem Rdp.mid (p : Rdp g h B s r w0 w) (m1 : Mv [g] [g] w w') : RcAt h s r w' := p.pb.aside m1 (by simp; exact p.ne.symm)
end
set_option maxHeartbeats 8000000 in
set_option maxRecDepth 100000 in
theorem ibytes_alive (x : Ins) (b : ByteArray) (w : World) (hq : smallB x.t = false ∨ (3000 : Int) < (b.size : Int)) :
    Calls Try.prog 6 #[.agg x.cells, .string b] w fun e w' => e = .returned (.bool true) ∧ Below w.heap.size w w' := by
  have hk1 : (w.alloc (.cells x.cells 25)).heap[w.heap.size]? = some (.cells x.cells 25 (0, 0)) := heap_alloc_new _ _
  have HB1 : Hid (Below w.heap.size w (w.alloc (.cells x.cells 25))) := (Below.refl _ _).alloc (Nat.le_refl _) _
  have HSM := Lib.hid (small_any x.t (w.alloc (.cells x.cells 25)))
  have HPC1 := Lib.hid (part_term hk1)
  clear hk1
  cases hsm : smallB x.t
  · rw [hsm] at HSM
    clear hsm hq
    go_enter Try.func6, Try.ntmps6
    go_wp2_with (refine wpList_load_part rfl 23 _ rfl ⟨w.heap.size, 1, none⟩ rfl x.t.cells _ HPC1.out Try.underlying23 rfl (term_len x.t) ?_)
    refine HSM.out.mono ?_
    rintro e w2 ⟨rfl, hb2⟩
    have HB2 := Lib.hid (HB1.out.trans (hb2.mono HB1.out.size))
    clear hb2
    go_wp2_with fail
    refine (alive12_any _).mono ?_
    rintro e w3 ⟨rfl, hb3⟩
    have HB3 := Lib.hid (HB2.out.trans (hb3.mono HB2.out.size))
    clear hb3
    go_wp2
    go_ret
    exact ⟨rfl, HB3.out⟩
  · rw [hsm] at HSM
    have hq' : (3000 : Int) < (b.size : Int) := hq.resolve_left (by rw [hsm]; simp)
    clear hsm hq
    go_enter Try.func6, Try.ntmps6
    go_wp2_with (refine wpList_load_part rfl 23 _ rfl ⟨w.heap.size, 1, none⟩ rfl x.t.cells _ HPC1.out Try.underlying23 rfl (term_len x.t) ?_)
    refine HSM.out.mono ?_
    rintro e w2 ⟨rfl, hb2⟩
    have HB2 := Lib.hid (HB1.out.trans (hb2.mono HB1.out.size))
    clear hb2
    go_wp2_with fail
    refine (alive12_any _).mono ?_
    rintro e w3 ⟨rfl, hb3⟩
    have HB3 := Lib.hid (HB2.out.trans (hb3.mono HB2.out.size))
    clear hb3
    go_wp2
    go_ret
    exact ⟨rfl, HB3.out⟩
set_option maxHeartbeats 1000000 in
set_option maxRecDepth 100000 in
theorem ibytes_main (x : Ins) (hf : x.Fits) (b : ByteArray) (w : World) (hsm : smallB x.t = true) (hq : (b.size : Int) ≤ (3000 : Int)) :
    Calls Try.prog 6 #[.agg x.cells, .string b] w fun e w' => e = .returned (.bool true) ∧ Below w.heap.size w w' := by
  have hk1 : (w.alloc (.cells x.cells 25)).heap[w.heap.size]? = some (.cells x.cells 25 (0, 0)) := heap_alloc_new _ _
  have HB1 : Hid (Below w.heap.size w (w.alloc (.cells x.cells 25))) := (Below.refl _ _).alloc (Nat.le_refl _) _
  have HSM := Lib.hid (small_any x.t (w.alloc (.cells x.cells 25)))
  have HK1 := Lib.hid hk1; have HF := Lib.hid hf
  have HPC1 := Lib.hid (part_term hk1)
  have hq' : ¬ (3000 : Int) < (b.size : Int) := by omega
  have HQ := Lib.hid hq
  rw [hsm] at HSM
  clear hk1 hf hsm hq
  go_enter Try.func6, Try.ntmps6
  go_wp2_with (refine wpList_load_part rfl 23 _ rfl ⟨w.heap.size, 1, none⟩ rfl x.t.cells _ HPC1.out Try.underlying23 rfl (term_len x.t) ?_)
  refine HSM.out.mono ?_
  rintro e w2 ⟨rfl, hb2⟩
  have HB2 := Lib.hid (HB1.out.trans (hb2.mono HB1.out.size))
  have HK2 := Lib.hid ((hb2.block w.heap.size (by simp)).trans HK1.out)
  obtain ⟨b1, hb1⟩ : ∃ b1, w.heap.size = b1 := ⟨_, rfl⟩
  have HBW := Lib.hid hb1
  rw [hb1] at HK2 ⊢
  clear hb2 HB1 HK1 HPC1 HSM hb1
  go_wp2_with fail
  refine (newWriter_any w2).mono ?_
  rintro e w3 ⟨rfl, hw3, hb3⟩
  have hk3 := (hb3.block b1 (Blk.lt (t := 25) HK2.out)).trans HK2.out
  have hb13 : b1 < w2.heap.size := Blk.lt (t := 25) HK2.out
  have hlt3 := hw3.lt
  have hz3 := hb3.size
  have hz2 := HB2.out.size
  have HP3 : Hid (Prx w2.heap.size w3.heap.size w.heap.size b1 x [w2.heap.size] [w3.heap.size] (0, []) (0, []) w (w3.alloc (.cells #[.slice none 0 0, .int .i64 0] 41))) :=
    ⟨hw3.alloc _, rw_new w3, by intro k hk; simp at hk; omega, by intro k hk; simp at hk; omega, by intro k hk; simp at hk ⊢; omega, (Below.heap_alloc _ _ _ (Blk.lt (t := 25) hk3)).trans hk3, by simp; omega, by simp; omega,
      (HB2.out.trans (hb3.mono HB2.out.size)).alloc (by omega) _, by simp; omega⟩
  obtain ⟨g, hg⟩ : ∃ g, w2.heap.size = g := ⟨_, rfl⟩
  obtain ⟨h, hh⟩ : ∃ h, w3.heap.size = h := ⟨_, rfl⟩
  obtain ⟨W, hW⟩ : ∃ W, w3.alloc (.cells #[.slice none 0 0, .int .i64 0] 41) = W := ⟨_, rfl⟩
  have HW := Lib.hid hW
  have HH := Lib.hid hh
  rw [hW, hg, hh] at HP3
  rw [hg]
  clear hg hh hW hz2 hz3 hlt3 hb13 hk3 hw3 hb3 HB2 HK2
  have h21 : x.cells.size = 21 := rfl
  have HKR : Hid ((w3.alloc (.cells #[.slice none 0 0, .int .i64 0] 41)).heap[b1]? = some (.cells x.cells 25 (0, 0))) := by show _ = _; rw [HW.out]; exact HP3.out.kc
  go_wp2_with (first
    | (refine wpList_load_named rfl 25 _ rfl b1 rfl _ _ _ HKR.out Try.underlying25 rfl (inst_len x) _ rfl ?_)
    | (refine wpList_build_two rfl x _ _ rfl rfl rfl ?_))
  rw [HW.out, HH.out]
  have hWs : W.heap.size = h + 1 := by rw [← HW.out, ← HH.out]; simp
  have hwa : WrAt g [g] ((0, []) : Wire.St).1 ((0, []) : Wire.St).2 (W.alloc (.cells (x.cells ++ x.cells) 25)) := HP3.out.pa.alloc _
  have hbk : (W.alloc (.cells (x.cells ++ x.cells) 25)).heap[h + 1]? = some (.cells (x.cells ++ x.cells) 25 (0, 0)) := by rw [← hWs]; exact heap_alloc_new _ _
  have hbS : h + 1 ∉ [g] := by rw [← hWs]; exact fun hk => Nat.lt_irrefl _ (HP3.out.pa.there _ hk)
  refine (put2_any g [g] (0, []) x HF.out (h + 1) 2 _ hwa hbk hbS (by simp)).mono ?_
  rintro e w4 ⟨rfl, S4, hw4, hm4⟩
  have hl4 := ops_len x (x.ops.foldl Wire.stOp (0, []))
  have hl3 := ops_len x (0, [])
  rw [← List.foldl_append] at hl4
  have HST4 : Hid (x.ops.foldl Wire.stOp (x.ops.foldl Wire.stOp (0, [])) = (x.ops ++ x.ops).foldl Wire.stOp (0, [])) := by show _ = _; rw [List.foldl_append]
  have HP4 := Lib.hid (HP3.out.wr hw4 (((Mv.refl [g] W).alloc _).trans hm4))
  obtain ⟨st3, hst3⟩ : ∃ st3, x.ops.foldl Wire.stOp (0, []) = st3 := ⟨_, rfl⟩
  have HST3 := Lib.hid hst3
  rw [hst3] at hl3 hl4 HST4
  obtain ⟨st4, hst4⟩ : ∃ st4, (x.ops ++ x.ops).foldl Wire.stOp (0, []) = st4 := ⟨_, rfl⟩
  rw [hst4] at hl4 HP4 HST4
  have HL3 := Lib.hid (show st3.2.length ≤ 10000 by simpa using hl3)
  have HL4 := Lib.hid (show st4.2.length ≤ 20000 by have := HL3.out; omega)
  clear hw4 hm4 hl4 hl3 hst3 hst4 hWs hwa hbk hbS HP3 HW HH HKR
  have h12 : x.t.cells.size = 12 := rfl
  have HPC4 := Lib.hid (part_term HP4.out.kc)
  go_wp2_with (refine wpList_load_part rfl 23 _ rfl ⟨b1, 1, none⟩ rfl x.t.cells _ HPC4.out Try.underlying23 rfl (term_len x.t) ?_)
  rw [fold_term]
  have hwa : WrAt g S4 st4.1 st4.2 (w4.alloc (.cells x.t.cells 23)) := HP4.out.pa.alloc _
  refine (putTerm_any g S4 st4 x.t HF.out.t w4.heap.size 1 _ hwa (heap_alloc_new w4 _) (by have := HL4.out; omega)).mono ?_
  rintro e w5 ⟨rfl, S5, hw5, hm5⟩
  have hl5 := trm_len x.t st4
  have HP5 := Lib.hid (HP4.out.wr hw5 (((Mv.refl S4 w4).alloc _).trans hm5))
  obtain ⟨st5, hst5⟩ : ∃ st5, x.t.ops.foldl Wire.stOp st4 = st5 := ⟨_, rfl⟩
  rw [hst5] at hl5 HP5
  have HST5 := Lib.hid hst5
  clear hw5 hm5 hst5 hwa HP4 HPC4 hl5
  have HK5 := Lib.hid HP5.out.kc
  go_wp2_with (refine wpList_load_named rfl 25 _ rfl b1 rfl _ _ _ HK5.out Try.underlying25 rfl (inst_len x) _ rfl ?_)
  refine (rput_any h [h] (0, []) x HF.out w5 HP5.out.pb (by simp)).mono ?_
  rintro e w6 ⟨rfl, T6, hw6, hm6⟩
  have HP6 := Lib.hid (HP5.out.rw' hw6 hm6)
  rw [HST3.out] at HP6
  clear hw6 hm6 HP5 HK5
  have HK6 := Lib.hid HP6.out.kc
  go_wp2_with (refine wpList_load_named rfl 25 _ rfl b1 rfl _ _ _ HK6.out Try.underlying25 rfl (inst_len x) _ rfl ?_)
  refine (rput_any h T6 st3 x HF.out w6 HP6.out.pb (by have := HL3.out; omega)).mono ?_
  rintro e w7 ⟨rfl, T7, hw7, hm7⟩
  have HP7 := Lib.hid (HP6.out.rw' hw7 hm7)
  rw [HST4.out] at HP7
  clear hw7 hm7 HP6 HK6
  have HPC7 := Lib.hid (part_term HP7.out.kc)
  go_wp2_with (refine wpList_load_part rfl 23 _ rfl ⟨b1, 1, none⟩ rfl x.t.cells _ HPC7.out Try.underlying23 rfl (term_len x.t) ?_)
  refine (rputTerm_any h T7 st4 x.t HF.out.t w7 HP7.out.pb (by have := HL4.out; omega)).mono ?_
  rintro e w8 ⟨rfl, T8, hw8, hm8⟩
  have HP8 := Lib.hid (HP7.out.rw' hw8 hm8)
  rw [HST5.out] at HP8
  clear hw8 hm8 HP7 HPC7 HST3 HST4 HST5 HL3 HL4 h12
  obtain ⟨er, her⟩ : ∃ er, st5.1 = er := ⟨_, rfl⟩
  obtain ⟨bs, hbs⟩ : ∃ bs : ByteArray, (⟨(bytesOf st5).toArray⟩ : ByteArray) = bs := ⟨_, rfl⟩
  have BY := bytes_any g S5 st5 _ HP8.out.pa
  have BR := rwbytes_any h T8 st5 _ HP8.out.pb
  have HB8 := Lib.hid HP8.out.bel
  rw [her] at BY BR
  rw [hbs] at BY BR
  clear her hbs HP8
  go_wp2_with fail
  refine BY.mono ?_
  rintro e w9 ⟨rfl, rfl⟩
  go_wp2_with fail
  refine BR.mono ?_
  rintro e w10 ⟨rfl, q, rfl⟩
  clear BY BR
  go_wp2_with fail
  have hbz : b.size ≤ 1000000000 := by have := HQ.out; omega
  have HZ := Lib.hid hbz
  refine (newReader_any b _ hbz).mono ?_
  rintro e w11 ⟨g2, rfl, hg2, hr11, hb11⟩
  clear hbz
  have hgl11 := hr11.lt
  have hz11 : w8.heap.size ≤ w11.heap.size := hb11.size
  have hg2 : w8.heap.size ≤ g2 := hg2
  have hz8 := HB8.out.size
  have HQ11 : Hid (Rdp g2 w11.heap.size w.heap.size b ⟨0, 0⟩ w (w11.alloc (.cells #[.string b, .int .i64 0] 52))) := by
    refine ⟨hr11.below ((Below.refl _ _).alloc (Nat.le_refl _) _), ?_, ?_, by omega, by omega, ?_, ?_⟩
    · show RrAt _ _ (cutAt b 0) _
      rw [cutAt_all]
      exact heap_alloc_new _ _
    · exact Nat.le_trans hz8 hg2
    · exact ((drewN_below HB8.out q).trans (hb11.mono hz8)).alloc (Nat.le_trans hz8 hz11) _
    · have : w.heap.size ≤ w11.heap.size := Nat.le_trans hz8 hz11
      simp; omega
  obtain ⟨h2, hh⟩ : ∃ h2, w11.heap.size = h2 := ⟨_, rfl⟩
  obtain ⟨V, hV⟩ : ∃ V, w11.alloc (.cells #[.string b, .int .i64 0] 52) = V := ⟨_, rfl⟩
  rw [hh, hV] at HQ11
  have HV := Lib.hid hV
  have HH2 := Lib.hid hh
  clear hgl11 hz11 hz8 hg2 hr11 hb11 hh hV HB8
  go_wp2_with fail
  rw [HV.out, HH2.out]
  clear HV HH2
  refine (getE_any g2 b ⟨0, 0⟩ (Nat.zero_le _) HZ.out V HQ11.out.pa).mono ?_
  rintro e w12 ⟨rfl, hr12, hm12⟩
  have C2 := Lib.hid (rget_any h2 b ⟨0, 0⟩ (Nat.zero_le _) HZ.out w12 (HQ11.out.mid hm12))
  have HR12 := Lib.hid hr12
  have HM12 := Lib.hid hm12
  have hk12 : (rdIns b ⟨0, 0⟩).2.k ≤ b.size := rdIns_k (Nat.zero_le _)
  have HK12 := Lib.hid hk12
  obtain ⟨Y, hY⟩ : ∃ Y, (rdIns b ⟨0, 0⟩).1 = Y := ⟨_, rfl⟩
  obtain ⟨R, hR⟩ : ∃ R, (rdIns b ⟨0, 0⟩).2 = R := ⟨_, rfl⟩
  rw [hY, hR] at C2
  rw [hR] at HR12 HK12
  rw [hY]
  clear hr12 hm12 hk12 hY hR
  go_wp2_with fail
  refine C2.out.mono ?_
  rintro e w13 ⟨rfl, hr13, hm13⟩
  have HQ13 := Lib.hid (HQ11.out.both HR12.out HM12.out hr13 hm13)
  clear hr13 hm13 C2 HR12 HM12 HQ11
  have h21y : Y.cells.size = 21 := rfl
  have HNEW := Lib.hid (new_second w13 (.cells Y.cells 25) #[.int .i64 0, .string ⟨#[]⟩, .string ⟨#[]⟩, .string ⟨#[]⟩, .string ⟨#[]⟩, .bool false, .string ⟨#[]⟩, .string ⟨#[]⟩, .string ⟨#[]⟩, .int .i64 0, .int .i64 0, .int .i64 0, .int .i64 0, .int .i64 0, .bool false, .bool false, .bool false, .int .i64 0, .int .i64 0, .int .i64 0, .int .i64 0] 25)
  have HSET := Lib.hid (set_second w13 (.cells Y.cells 25) #[.int .i64 0, .string ⟨#[]⟩, .string ⟨#[]⟩, .string ⟨#[]⟩, .string ⟨#[]⟩, .bool false, .string ⟨#[]⟩, .string ⟨#[]⟩, .string ⟨#[]⟩, .int .i64 0, .int .i64 0, .int .i64 0, .int .i64 0, .int .i64 0, .bool false, .bool false, .bool false, .int .i64 0, .int .i64 0, .int .i64 0, .int .i64 0] Y.cells 25)
  go_wp2_with (first
    | (refine wpList_store_prev rfl 25 _ _ rfl w13 25 _ _ _ rfl rfl (inst_len Y) (by rfl) (one_inst Y) ?_)
    | (refine wpList_store_row rfl 25 _ _ rfl (w13.heap.size + 1) Y.cells rfl rfl 25 _ HNEW.out (inst_len Y) (by rfl) (one_inst Y) ?_; rw [HSET.out]))
  have hqv2 : Rdp g2 h2 w.heap.size b R w ((w13.alloc (.cells Y.cells 25)).alloc (.cells Y.cells 25)) := (HQ13.out.low ((Below.refl _ _).alloc (Nat.le_refl _) _)).low ((Below.refl _ _).alloc (Nat.le_refl _) _)
  have hy1 : ((w13.alloc (.cells Y.cells 25)).alloc (.cells Y.cells 25)).heap[w13.heap.size]? = some (.cells Y.cells 25 (0, 0)) := (Below.heap_alloc _ _ _ (by simp)).trans (heap_alloc_new w13 _)
  have hy2 := new_second w13 (.cells Y.cells 25) Y.cells 25
  obtain ⟨V2, hV2⟩ : ∃ V2, (w13.alloc (.cells Y.cells 25)).alloc (.cells Y.cells 25) = V2 := ⟨_, rfl⟩
  obtain ⟨c1, hc1⟩ : ∃ c1, w13.heap.size = c1 := ⟨_, rfl⟩
  rw [hV2] at hqv2 hy1 hy2 ⊢
  rw [hc1] at hy1 hy2 ⊢
  clear hV2 hc1 HNEW HSET HQ13
  have HQ2 := Lib.hid hqv2
  have CA : V2.cell? ⟨g2, 0, none⟩ = some (.int .i64 R.e) := hqv2.pa.cell0
  have CB : V2.cell? ⟨h2, 1, none⟩ = some (.int .i64 R.e) := RrAt.cell1 hqv2.pb
  have CAH := Lib.hid CA
  obtain ⟨er2, her2⟩ : ∃ er2, R.e = er2 := ⟨_, rfl⟩
  rw [her2] at CA CB CAH
  have SH := Lib.hid (show V2.heap[c1]? = some (.cells Y.cells 25 (0, 0)) ∧ V2.heap[c1 + 1]? = some (.cells Y.cells 25 (0, 0)) ∧ V2.cell? ⟨h2, 1, none⟩ = some (.int .i64 er2) from ⟨hy1, hy2, CB⟩)
  have HER2 := Lib.hid her2
  clear hqv2 hy1 hy2 her2 CA CB
  refine wp_region_held_drew (S := fun X => X.heap[c1]? = some (.cells Y.cells 25 (0, 0)) ∧ X.heap[c1 + 1]? = some (.cells Y.cells 25 (0, 0)) ∧ X.cell? ⟨h2, 1, none⟩ = some (.int .i64 er2)) (by kernel_rfl) SH.out (fun hHeld => ?_)
  refine wpAnyH_take (i := 0) (v := .agg Y.cells) rfl (by kernel_rfl) (by kernel_rfl) (by kernel_rfl) (fun _ _ _ h => h) (yieldsIf_load_row (by rfl) 25 _ rfl c1 rfl 25 Y.cells _ (fun _ h => h.1) Try.underlying25 rfl (inst_len Y)) (by assumption) ?_
  try simp only [Act.put, List.setIfInBounds_toArray, List.set_cons_zero, List.set_cons_succ, List.getElem_toArray, List.getElem_cons_succ, List.getElem_cons_zero]
  refine wpAnyH_take (i := 1) (v := .agg Y.cells) rfl (by kernel_rfl) (by kernel_rfl) (by kernel_rfl) (fun _ _ _ h => h) (yieldsIf_load_row (by rfl) 25 _ rfl (c1 + 1) rfl 25 Y.cells _ (fun _ h => h.2.1) Try.underlying25 rfl (inst_len Y)) (by assumption) ?_
  try simp only [Act.put, List.setIfInBounds_toArray, List.set_cons_zero, List.set_cons_succ, List.getElem_toArray, List.getElem_cons_succ, List.getElem_cons_zero]
  refine wpAnyH_take (i := 2) (v := .bool false) rfl (by kernel_rfl) (by kernel_rfl) (by kernel_rfl) (fun _ _ _ h => h) (yieldsIf_same (by rfl) 25 _ _ _ .neq (.inr rfl) rfl Y.cells rfl rfl eqg_inst (fun W => run_eq_inst W Y)) (by assumption) ?_
  try simp only [Act.put, List.setIfInBounds_toArray, List.set_cons_zero, List.set_cons_succ, List.getElem_toArray, List.getElem_cons_succ, List.getElem_cons_zero]
  refine wpAnyH_take (i := 3) (v := ?_) rfl (by kernel_rfl) (by kernel_rfl) (by kernel_rfl) (fun _ _ _ h => h) (Or.inl ⟨by rfl, ?_⟩) (by assumption) ?_
  rotate_left
  · intro X hSw; (try dsimp only at hSw); (try simp only [List.getElem_toArray, List.getElem_cons_succ, List.getElem_cons_zero]); first | (go_simp; done) | (go_simp; with_reducible rfl)
  try simp only [Act.put, List.setIfInBounds_toArray, List.set_cons_zero, List.set_cons_succ, List.getElem_toArray, List.getElem_cons_succ, List.getElem_cons_zero]
  refine wpAnyH_take (i := 4) (v := ?_) rfl (by kernel_rfl) (by kernel_rfl) (by kernel_rfl) (fun _ _ _ h => h) (Or.inl ⟨by rfl, ?_⟩) (by assumption) ?_
  rotate_left
  · intro X hSw; (try dsimp only at hSw); (try simp only [List.getElem_toArray, List.getElem_cons_succ, List.getElem_cons_zero]); first | (go_simp; done) | (go_simp; with_reducible rfl)
  try simp only [Act.put, List.setIfInBounds_toArray, List.set_cons_zero, List.set_cons_succ, List.getElem_toArray, List.getElem_cons_succ, List.getElem_cons_zero]
  refine wpAnyH_take (i := 5) (v := ?_) rfl (by kernel_rfl) (by kernel_rfl) (by kernel_rfl) (fun _ _ _ h => h) (Or.inl ⟨by rfl, ?_⟩) (by assumption) ?_
  rotate_left
  · intro X hSw; (try dsimp only at hSw); (try simp only [List.getElem_toArray, List.getElem_cons_succ, List.getElem_cons_zero]); first | (go_simp; done) | (go_simp; with_reducible rfl)
  try simp only [Act.put, List.setIfInBounds_toArray, List.set_cons_zero, List.set_cons_succ, List.getElem_toArray, List.getElem_cons_succ, List.getElem_cons_zero]
  refine wpAnyH_take (i := 6) (v := ?_) rfl (by kernel_rfl) (by kernel_rfl) (by kernel_rfl) (fun _ _ _ h => h) (Or.inl ⟨by rfl, ?_⟩) (by assumption) ?_
  rotate_left
  · intro X hSw; (try dsimp only at hSw); (try simp only [List.getElem_toArray, List.getElem_cons_succ, List.getElem_cons_zero]); first | (go_simp; done) | (go_simp; with_reducible rfl)
  try simp only [Act.put, List.setIfInBounds_toArray, List.set_cons_zero, List.set_cons_succ, List.getElem_toArray, List.getElem_cons_succ, List.getElem_cons_zero]
  refine wpAnyH_take (i := 8) (v := ?_) rfl (by kernel_rfl) (by kernel_rfl) (by kernel_rfl) (fun _ _ _ h => h) (Or.inl ⟨by rfl, ?_⟩) (by assumption) ?_
  rotate_left
  · intro X hSw; (try dsimp only at hSw); (try simp only [List.getElem_toArray, List.getElem_cons_succ, List.getElem_cons_zero]); first | (go_simp; done) | (go_simp; with_reducible rfl)
  try simp only [Act.put, List.setIfInBounds_toArray, List.set_cons_zero, List.set_cons_succ, List.getElem_toArray, List.getElem_cons_succ, List.getElem_cons_zero]
  refine wpAnyH_take (i := 9) (v := ?_) rfl (by kernel_rfl) (by kernel_rfl) (by kernel_rfl) (fun _ _ _ h => h) (Or.inl ⟨by rfl, ?_⟩) (by assumption) ?_
  rotate_left
  · intro X hSw; (try dsimp only at hSw); (try simp only [List.getElem_toArray, List.getElem_cons_succ, List.getElem_cons_zero]); first | (go_simp; done) | (go_simp; with_reducible rfl)
  try simp only [Act.put, List.setIfInBounds_toArray, List.set_cons_zero, List.set_cons_succ, List.getElem_toArray, List.getElem_cons_succ, List.getElem_cons_zero]
  refine wpAnyH_take (i := 10) (v := ?_) rfl (by kernel_rfl) (by kernel_rfl) (by kernel_rfl) (fun _ _ _ h => h) (Or.inl ⟨by rfl, ?_⟩) (by assumption) ?_
  rotate_left
  · intro X hSw; (try dsimp only at hSw); (try simp only [List.getElem_toArray, List.getElem_cons_succ, List.getElem_cons_zero]); first | (go_simp; done) | (go_simp; with_reducible rfl)
  try simp only [Act.put, List.setIfInBounds_toArray, List.set_cons_zero, List.set_cons_succ, List.getElem_toArray, List.getElem_cons_succ, List.getElem_cons_zero]
  refine wpAnyH_take (i := 11) (v := ?_) rfl (by kernel_rfl) (by kernel_rfl) (by kernel_rfl) (fun _ _ _ h => h) (Or.inl ⟨by rfl, ?_⟩) (by assumption) ?_
  rotate_left
  · intro X hSw; (try dsimp only at hSw); have hx := hSw.2.2; (try simp only [List.getElem_toArray, List.getElem_cons_succ, List.getElem_cons_zero]); first | (go_simp; done) | (go_simp; with_reducible rfl)
  try simp only [Act.put, List.setIfInBounds_toArray, List.set_cons_zero, List.set_cons_succ, List.getElem_toArray, List.getElem_cons_succ, List.getElem_cons_zero]
  refine wpAnyH_ready (rs := [7]) (by kernel_rfl) (by simp) (AllReadyH.cons rfl (fun K hK => ?_) AllReadyH.nil)
  try simp only [List.getElem_toArray, List.getElem_cons_succ, List.getElem_cons_zero]
  go_simp
  refine (wrong_any g2 er2 V2.drew CAH.out).mono ?_
  rintro e w14 ⟨rfl, rfl⟩
  refine hK.out _ _ (SH.out) (fun hHeld => ?_)
  clear hK K
  try simp only [Act.put, List.setIfInBounds_toArray, List.set_cons_zero, List.set_cons_succ, List.getElem_toArray, List.getElem_cons_succ, List.getElem_cons_zero]
  refine wpAnyH_take (i := 12) (v := ?_) rfl (by kernel_rfl) (by kernel_rfl) (by kernel_rfl) (fun _ _ _ h => h) (Or.inl ⟨by rfl, ?_⟩) (by assumption) ?_
  rotate_left
  · intro X hSw; (try dsimp only at hSw); (try simp only [List.getElem_toArray, List.getElem_cons_succ, List.getElem_cons_zero]); first | (go_simp; done) | (go_simp; with_reducible rfl)
  try simp only [Act.put, List.setIfInBounds_toArray, List.set_cons_zero, List.set_cons_succ, List.getElem_toArray, List.getElem_cons_succ, List.getElem_cons_zero]
  refine wpAnyH_take (i := 13) (v := ?_) rfl (by kernel_rfl) (by kernel_rfl) (by kernel_rfl) (fun _ _ _ h => h) (Or.inl ⟨by rfl, ?_⟩) (by assumption) ?_
  rotate_left
  · intro X hSw; (try dsimp only at hSw); (try simp only [List.getElem_toArray, List.getElem_cons_succ, List.getElem_cons_zero]); first | (go_simp; done) | (go_simp; with_reducible rfl)
  try simp only [Act.put, List.setIfInBounds_toArray, List.set_cons_zero, List.set_cons_succ, List.getElem_toArray, List.getElem_cons_succ, List.getElem_cons_zero]
  refine wpAnyH_done (by kernel_rfl) ?_ _
  have hqu : Rdp g2 h2 w.heap.size b R w V2.drew := HQ2.out.low (Below.refl _ _).drew
  obtain ⟨U, hU⟩ : ∃ U, V2.drew = U := ⟨_, rfl⟩
  rw [hU] at hqu ⊢
  have HQU := Lib.hid hqu
  clear hqu hU HQ2 SH CAH HER2
  go_wp2_with fail
  refine (getTermE_any g2 b R HK12.out HZ.out U HQU.out.pa).mono ?_
  rintro e w15 ⟨rfl, hr15, hm15⟩
  have C2 := Lib.hid (rgetTerm_any h2 b R HK12.out HZ.out w15 (HQU.out.mid hm15))
  have HR15 := Lib.hid hr15
  have HM15 := Lib.hid hm15
  have HK15 := Lib.hid (rdTrm_k (s := b) HK12.out)
  obtain ⟨Z, hZ⟩ : ∃ Z, (rdTrm b R).1 = Z := ⟨_, rfl⟩
  obtain ⟨R2, hR⟩ : ∃ R2, (rdTrm b R).2 = R2 := ⟨_, rfl⟩
  rw [hZ, hR] at C2
  rw [hR] at HR15 HK15
  rw [hZ]
  clear hr15 hm15 hZ hR
  go_wp2_with fail
  refine C2.out.mono ?_
  rintro e w16 ⟨rfl, hr16, hm16⟩
  have HQ16 := Lib.hid (HQU.out.both HR15.out HM15.out hr16 hm16)
  clear hr16 hm16 C2 HR15 HM15 HQU
  have h12z : Z.cells.size = 12 := rfl
  have HNEW := Lib.hid (new_second w16 (.cells Z.cells 23) #[.string ⟨#[]⟩, .string ⟨#[]⟩, .string ⟨#[]⟩, .string ⟨#[]⟩, .bool false, .string ⟨#[]⟩, .string ⟨#[]⟩, .string ⟨#[]⟩, .int .i64 0, .int .i64 0, .int .i64 0, .int .i64 0] 23)
  have HSET := Lib.hid (set_second w16 (.cells Z.cells 23) #[.string ⟨#[]⟩, .string ⟨#[]⟩, .string ⟨#[]⟩, .string ⟨#[]⟩, .bool false, .string ⟨#[]⟩, .string ⟨#[]⟩, .string ⟨#[]⟩, .int .i64 0, .int .i64 0, .int .i64 0, .int .i64 0] Z.cells 23)
  go_wp2_with (first
    | (refine wpList_store_prev rfl 23 _ _ rfl w16 23 _ _ _ rfl rfl (term_len2 Z) (by rfl) (one_term Z) ?_)
    | (refine wpList_store_row rfl 23 _ _ rfl (w16.heap.size + 1) Z.cells rfl rfl 23 _ HNEW.out (term_len2 Z) (by rfl) (one_term Z) ?_; rw [HSET.out]))
  have hqv2 : Rdp g2 h2 w.heap.size b R2 w ((w16.alloc (.cells Z.cells 23)).alloc (.cells Z.cells 23)) := (HQ16.out.low ((Below.refl _ _).alloc (Nat.le_refl _) _)).low ((Below.refl _ _).alloc (Nat.le_refl _) _)
  have hy1 : ((w16.alloc (.cells Z.cells 23)).alloc (.cells Z.cells 23)).heap[w16.heap.size]? = some (.cells Z.cells 23 (0, 0)) := (Below.heap_alloc _ _ _ (by simp)).trans (heap_alloc_new w16 _)
  have hy2 := new_second w16 (.cells Z.cells 23) Z.cells 23
  obtain ⟨V3, hV2⟩ : ∃ V3, (w16.alloc (.cells Z.cells 23)).alloc (.cells Z.cells 23) = V3 := ⟨_, rfl⟩
  obtain ⟨d1, hc1⟩ : ∃ d1, w16.heap.size = d1 := ⟨_, rfl⟩
  rw [hV2] at hqv2 hy1 hy2 ⊢
  rw [hc1] at hy1 hy2 ⊢
  clear hV2 hc1 HNEW HSET HQ16
  have HQ3 := Lib.hid hqv2
  have hcs := cutAt_size b R2.k
  obtain ⟨bc, hbc⟩ : ∃ bc, cutAt b R2.k = bc := ⟨_, rfl⟩
  obtain ⟨er3, her3⟩ : ∃ er3, R2.e = er3 := ⟨_, rfl⟩
  have SK : Hid (∀ X, Below V3.heap.size V3 X → X.heap[d1]? = some (.cells Z.cells 23 (0, 0)) ∧ X.heap[d1 + 1]? = some (.cells Z.cells 23 (0, 0)) ∧ X.cell? ⟨h2, 1, none⟩ = some (.int .i64 er3) ∧ X.cell? ⟨h2, 0, none⟩ = some (.string bc)) := by
    intro X hb
    have hq := hqv2.low hb
    refine ⟨(hb.block d1 (Blk.lt (t := 23) hy1)).trans hy1, (hb.block (d1 + 1) (Blk.lt (t := 23) hy2)).trans hy2, ?_, ?_⟩
    · rw [← her3]; exact RrAt.cell1 hq.pb
    · rw [← hbc]; exact RrAt.cell0 hq.pb
  have CWR : Hid (∀ X, Below V3.heap.size V3 X → Calls Try.prog 26 #[.pointer (some ⟨g2, 0, none⟩)] X fun r w' => r = .returned (.int .i64 er3) ∧ X = w') := by
    intro X hb
    rw [← her3]
    exact wrong_any g2 R2.e X (hqv2.low hb).pa.cell0
  have CLF : Hid (∀ X, Below V3.heap.size V3 X → Calls Try.prog 29 #[.pointer (some ⟨g2, 0, none⟩)] X fun r w' => r = .returned (.int .i64 bc.size) ∧ ∃ q, w' = X.drewN q) := by
    intro X hb
    rw [← hbc, hcs]
    exact rleft_any g2 R2.e b R2.k X (hqv2.low hb).pa HK15.out HZ.out
  have S0 := SK.out V3 (Below.refl _ _)
  have S0H := Lib.hid S0
  clear hqv2 hy1 hy2 her3 hbc hcs S0
  refine wp_region_held_drew (S := fun X => X.heap[d1]? = some (.cells Z.cells 23 (0, 0)) ∧ X.heap[d1 + 1]? = some (.cells Z.cells 23 (0, 0)) ∧ X.cell? ⟨h2, 1, none⟩ = some (.int .i64 er3) ∧ X.cell? ⟨h2, 0, none⟩ = some (.string bc)) (by kernel_rfl) S0H.out (fun hHeld => ?_)
  refine wpAnyH_ready (rs := [0]) (by kernel_rfl) (by simp) (AllReadyH.cons rfl (fun K hK => ?_) AllReadyH.nil)
  try simp only [List.getElem_toArray, List.getElem_cons_succ, List.getElem_cons_zero]
  go_simp
  refine (alive12_any _).mono ?_
  rintro e w17 ⟨rfl, b17⟩
  have B17 : Below V3.heap.size V3 w17 := ((Below.refl V3.heap.size V3).drew).trans b17
  refine hK.out _ _ (SK.out _ B17) (fun hHeld => ?_)
  clear hK K
  try simp only [Act.put, List.setIfInBounds_toArray, List.set_cons_zero, List.set_cons_succ, List.getElem_toArray, List.getElem_cons_succ, List.getElem_cons_zero]
  refine wpAnyH_take (i := 1) (v := ?_) rfl (by kernel_rfl) (by kernel_rfl) (by kernel_rfl) (fun _ _ _ h => h) (Or.inl ⟨by rfl, ?_⟩) (by assumption) ?_
  rotate_left
  · intro X hSw; (try dsimp only at hSw); (try simp only [List.getElem_toArray, List.getElem_cons_succ, List.getElem_cons_zero]); first | (go_simp; done) | (go_simp; with_reducible rfl)
  try simp only [Act.put, List.setIfInBounds_toArray, List.set_cons_zero, List.set_cons_succ, List.getElem_toArray, List.getElem_cons_succ, List.getElem_cons_zero]
  refine wpAnyH_take (i := 2) (v := .agg Z.cells) rfl (by kernel_rfl) (by kernel_rfl) (by kernel_rfl) (fun _ _ _ h => h) (yieldsIf_load_row (by rfl) 23 _ rfl d1 rfl 23 Z.cells _ (fun _ h => h.1) Try.underlying23 rfl (term_len2 Z)) (by assumption) ?_
  try simp only [Act.put, List.setIfInBounds_toArray, List.set_cons_zero, List.set_cons_succ, List.getElem_toArray, List.getElem_cons_succ, List.getElem_cons_zero]
  refine wpAnyH_take (i := 3) (v := .agg Z.cells) rfl (by kernel_rfl) (by kernel_rfl) (by kernel_rfl) (fun _ _ _ h => h) (yieldsIf_load_row (by rfl) 23 _ rfl (d1 + 1) rfl 23 Z.cells _ (fun _ h => h.2.1) Try.underlying23 rfl (term_len2 Z)) (by assumption) ?_
  try simp only [Act.put, List.setIfInBounds_toArray, List.set_cons_zero, List.set_cons_succ, List.getElem_toArray, List.getElem_cons_succ, List.getElem_cons_zero]
  refine wpAnyH_take (i := 4) (v := .bool true) rfl (by kernel_rfl) (by kernel_rfl) (by kernel_rfl) (fun _ _ _ h => h) (yieldsIf_same (by rfl) 23 _ _ _ .eql (.inl rfl) rfl Z.cells rfl rfl eqg_term (fun W => run_eq_term W 9998 Z)) (by assumption) ?_
  try simp only [Act.put, List.setIfInBounds_toArray, List.set_cons_zero, List.set_cons_succ, List.getElem_toArray, List.getElem_cons_succ, List.getElem_cons_zero]
  refine wpAnyH_take (i := 5) (v := ?_) rfl (by kernel_rfl) (by kernel_rfl) (by kernel_rfl) (fun _ _ _ h => h) (Or.inl ⟨by rfl, ?_⟩) (by assumption) ?_
  rotate_left
  · intro X hSw; (try dsimp only at hSw); (try simp only [List.getElem_toArray, List.getElem_cons_succ, List.getElem_cons_zero]); first | (go_simp; done) | (go_simp; with_reducible rfl)
  try simp only [Act.put, List.setIfInBounds_toArray, List.set_cons_zero, List.set_cons_succ, List.getElem_toArray, List.getElem_cons_succ, List.getElem_cons_zero]
  refine wpAnyH_take (i := 6) (v := ?_) rfl (by kernel_rfl) (by kernel_rfl) (by kernel_rfl) (fun _ _ _ h => h) (Or.inl ⟨by rfl, ?_⟩) (by assumption) ?_
  rotate_left
  · intro X hSw; (try dsimp only at hSw); (try simp only [List.getElem_toArray, List.getElem_cons_succ, List.getElem_cons_zero]); first | (go_simp; done) | (go_simp; with_reducible rfl)
  try simp only [Act.put, List.setIfInBounds_toArray, List.set_cons_zero, List.set_cons_succ, List.getElem_toArray, List.getElem_cons_succ, List.getElem_cons_zero]
  refine wpAnyH_take (i := 7) (v := ?_) rfl (by kernel_rfl) (by kernel_rfl) (by kernel_rfl) (fun _ _ _ h => h) (Or.inl ⟨by rfl, ?_⟩) (by assumption) ?_
  rotate_left
  · intro X hSw; (try dsimp only at hSw); (try simp only [List.getElem_toArray, List.getElem_cons_succ, List.getElem_cons_zero]); first | (go_simp; done) | (go_simp; with_reducible rfl)
  try simp only [Act.put, List.setIfInBounds_toArray, List.set_cons_zero, List.set_cons_succ, List.getElem_toArray, List.getElem_cons_succ, List.getElem_cons_zero]
  refine wpAnyH_take (i := 8) (v := ?_) rfl (by kernel_rfl) (by kernel_rfl) (by kernel_rfl) (fun _ _ _ h => h) (Or.inl ⟨by rfl, ?_⟩) (by assumption) ?_
  rotate_left
  · intro X hSw; (try dsimp only at hSw); (try simp only [List.getElem_toArray, List.getElem_cons_succ, List.getElem_cons_zero]); first | (go_simp; done) | (go_simp; with_reducible rfl)
  try simp only [Act.put, List.setIfInBounds_toArray, List.set_cons_zero, List.set_cons_succ, List.getElem_toArray, List.getElem_cons_succ, List.getElem_cons_zero]
  refine wpAnyH_take (i := 9) (v := ?_) rfl (by kernel_rfl) (by kernel_rfl) (by kernel_rfl) (fun _ _ _ h => h) (Or.inl ⟨by rfl, ?_⟩) (by assumption) ?_
  rotate_left
  · intro X hSw; (try dsimp only at hSw); (try simp only [List.getElem_toArray, List.getElem_cons_succ, List.getElem_cons_zero]); first | (go_simp; done) | (go_simp; with_reducible rfl)
  try simp only [Act.put, List.setIfInBounds_toArray, List.set_cons_zero, List.set_cons_succ, List.getElem_toArray, List.getElem_cons_succ, List.getElem_cons_zero]
  refine wpAnyH_take (i := 11) (v := ?_) rfl (by kernel_rfl) (by kernel_rfl) (by kernel_rfl) (fun _ _ _ h => h) (Or.inl ⟨by rfl, ?_⟩) (by assumption) ?_
  rotate_left
  · intro X hSw; (try dsimp only at hSw); (try simp only [List.getElem_toArray, List.getElem_cons_succ, List.getElem_cons_zero]); first | (go_simp; done) | (go_simp; with_reducible rfl)
  try simp only [Act.put, List.setIfInBounds_toArray, List.set_cons_zero, List.set_cons_succ, List.getElem_toArray, List.getElem_cons_succ, List.getElem_cons_zero]
  refine wpAnyH_take (i := 12) (v := ?_) rfl (by kernel_rfl) (by kernel_rfl) (by kernel_rfl) (fun _ _ _ h => h) (Or.inl ⟨by rfl, ?_⟩) (by assumption) ?_
  rotate_left
  · intro X hSw; (try dsimp only at hSw); (try simp only [List.getElem_toArray, List.getElem_cons_succ, List.getElem_cons_zero]); first | (go_simp; done) | (go_simp; with_reducible rfl)
  try simp only [Act.put, List.setIfInBounds_toArray, List.set_cons_zero, List.set_cons_succ, List.getElem_toArray, List.getElem_cons_succ, List.getElem_cons_zero]
  refine wpAnyH_take (i := 13) (v := ?_) rfl (by kernel_rfl) (by kernel_rfl) (by kernel_rfl) (fun _ _ _ h => h) (Or.inl ⟨by rfl, ?_⟩) (by assumption) ?_
  rotate_left
  · intro X hSw; (try dsimp only at hSw); (try simp only [List.getElem_toArray, List.getElem_cons_succ, List.getElem_cons_zero]); first | (go_simp; done) | (go_simp; with_reducible rfl)
  try simp only [Act.put, List.setIfInBounds_toArray, List.set_cons_zero, List.set_cons_succ, List.getElem_toArray, List.getElem_cons_succ, List.getElem_cons_zero]
  refine wpAnyH_take (i := 14) (v := ?_) rfl (by kernel_rfl) (by kernel_rfl) (by kernel_rfl) (fun _ _ _ h => h) (Or.inl ⟨by rfl, ?_⟩) (by assumption) ?_
  rotate_left
  · intro X hSw; (try dsimp only at hSw); have hx := hSw.2.2.1; (try simp only [List.getElem_toArray, List.getElem_cons_succ, List.getElem_cons_zero]); first | (go_simp; done) | (go_simp; with_reducible rfl)
  try simp only [Act.put, List.setIfInBounds_toArray, List.set_cons_zero, List.set_cons_succ, List.getElem_toArray, List.getElem_cons_succ, List.getElem_cons_zero]
  refine wpAnyH_ready (rs := [10]) (by kernel_rfl) (by simp) (AllReadyH.cons rfl (fun K hK => ?_) AllReadyH.nil)
  try simp only [List.getElem_toArray, List.getElem_cons_succ, List.getElem_cons_zero]
  go_simp
  refine (CWR.out _ B17).mono ?_
  rintro e w18 ⟨rfl, rfl⟩
  refine hK.out _ _ (SK.out _ B17) (fun hHeld => ?_)
  clear hK K
  try simp only [Act.put, List.setIfInBounds_toArray, List.set_cons_zero, List.set_cons_succ, List.getElem_toArray, List.getElem_cons_succ, List.getElem_cons_zero]
  refine wpAnyH_take (i := 15) (v := ?_) rfl (by kernel_rfl) (by kernel_rfl) (by kernel_rfl) (fun _ _ _ h => h) (Or.inl ⟨by rfl, ?_⟩) (by assumption) ?_
  rotate_left
  · intro X hSw; (try dsimp only at hSw); (try simp only [List.getElem_toArray, List.getElem_cons_succ, List.getElem_cons_zero]); first | (go_simp; done) | (go_simp; with_reducible rfl)
  try simp only [Act.put, List.setIfInBounds_toArray, List.set_cons_zero, List.set_cons_succ, List.getElem_toArray, List.getElem_cons_succ, List.getElem_cons_zero]
  refine wpAnyH_take (i := 16) (v := ?_) rfl (by kernel_rfl) (by kernel_rfl) (by kernel_rfl) (fun _ _ _ h => h) (Or.inl ⟨by rfl, ?_⟩) (by assumption) ?_
  rotate_left
  · intro X hSw; (try dsimp only at hSw); (try simp only [List.getElem_toArray, List.getElem_cons_succ, List.getElem_cons_zero]); first | (go_simp; done) | (go_simp; with_reducible rfl)
  try simp only [Act.put, List.setIfInBounds_toArray, List.set_cons_zero, List.set_cons_succ, List.getElem_toArray, List.getElem_cons_succ, List.getElem_cons_zero]
  refine wpAnyH_take (i := 17) (v := ?_) rfl (by kernel_rfl) (by kernel_rfl) (by kernel_rfl) (fun _ _ _ h => h) (Or.inl ⟨by rfl, ?_⟩) (by assumption) ?_
  rotate_left
  · intro X hSw; (try dsimp only at hSw); (try simp only [List.getElem_toArray, List.getElem_cons_succ, List.getElem_cons_zero]); first | (go_simp; done) | (go_simp; with_reducible rfl)
  try simp only [Act.put, List.setIfInBounds_toArray, List.set_cons_zero, List.set_cons_succ, List.getElem_toArray, List.getElem_cons_succ, List.getElem_cons_zero]
  refine wpAnyH_take (i := 18) (v := ?_) rfl (by kernel_rfl) (by kernel_rfl) (by kernel_rfl) (fun _ _ _ h => h) (Or.inl ⟨by rfl, ?_⟩) (by assumption) ?_
  rotate_left
  · intro X hSw; (try dsimp only at hSw); (try simp only [List.getElem_toArray, List.getElem_cons_succ, List.getElem_cons_zero]); first | (go_simp; done) | (go_simp; with_reducible rfl)
  try simp only [Act.put, List.setIfInBounds_toArray, List.set_cons_zero, List.set_cons_succ, List.getElem_toArray, List.getElem_cons_succ, List.getElem_cons_zero]
  refine wpAnyH_take (i := 20) (v := ?_) rfl (by kernel_rfl) (by kernel_rfl) (by kernel_rfl) (fun _ _ _ h => h) (Or.inl ⟨by rfl, ?_⟩) (by assumption) ?_
  rotate_left
  · intro X hSw; (try dsimp only at hSw); (try simp only [List.getElem_toArray, List.getElem_cons_succ, List.getElem_cons_zero]); first | (go_simp; done) | (go_simp; with_reducible rfl)
  try simp only [Act.put, List.setIfInBounds_toArray, List.set_cons_zero, List.set_cons_succ, List.getElem_toArray, List.getElem_cons_succ, List.getElem_cons_zero]
  refine wpAnyH_take (i := 21) (v := ?_) rfl (by kernel_rfl) (by kernel_rfl) (by kernel_rfl) (fun _ _ _ h => h) (Or.inl ⟨by rfl, ?_⟩) (by assumption) ?_
  rotate_left
  · intro X hSw; (try dsimp only at hSw); (try simp only [List.getElem_toArray, List.getElem_cons_succ, List.getElem_cons_zero]); first | (go_simp; done) | (go_simp; with_reducible rfl)
  try simp only [Act.put, List.setIfInBounds_toArray, List.set_cons_zero, List.set_cons_succ, List.getElem_toArray, List.getElem_cons_succ, List.getElem_cons_zero]
  refine wpAnyH_take (i := 22) (v := ?_) rfl (by kernel_rfl) (by kernel_rfl) (by kernel_rfl) (fun _ _ _ h => h) (Or.inl ⟨by rfl, ?_⟩) (by assumption) ?_
  rotate_left
  · intro X hSw; (try dsimp only at hSw); (try simp only [List.getElem_toArray, List.getElem_cons_succ, List.getElem_cons_zero]); first | (go_simp; done) | (go_simp; with_reducible rfl)
  try simp only [Act.put, List.setIfInBounds_toArray, List.set_cons_zero, List.set_cons_succ, List.getElem_toArray, List.getElem_cons_succ, List.getElem_cons_zero]
  refine wpAnyH_take (i := 23) (v := ?_) rfl (by kernel_rfl) (by kernel_rfl) (by kernel_rfl) (fun _ _ _ h => h) (Or.inl ⟨by rfl, ?_⟩) (by assumption) ?_
  rotate_left
  · intro X hSw; (try dsimp only at hSw); have hx := hSw.2.2.2; (try simp only [List.getElem_toArray, List.getElem_cons_succ, List.getElem_cons_zero]); first | (go_simp; done) | (go_simp; with_reducible rfl)
  try simp only [Act.put, List.setIfInBounds_toArray, List.set_cons_zero, List.set_cons_succ, List.getElem_toArray, List.getElem_cons_succ, List.getElem_cons_zero]
  refine wpAnyH_take (i := 24) (v := ?_) rfl (by kernel_rfl) (by kernel_rfl) (by kernel_rfl) (fun _ _ _ h => h) (Or.inl ⟨by rfl, ?_⟩) (by assumption) ?_
  rotate_left
  · intro X hSw; (try dsimp only at hSw); (try simp only [List.getElem_toArray, List.getElem_cons_succ, List.getElem_cons_zero]); first | (go_simp; done) | (go_simp; with_reducible rfl)
  try simp only [Act.put, List.setIfInBounds_toArray, List.set_cons_zero, List.set_cons_succ, List.getElem_toArray, List.getElem_cons_succ, List.getElem_cons_zero]
  refine wpAnyH_ready (rs := [19]) (by kernel_rfl) (by simp) (AllReadyH.cons rfl (fun K hK => ?_) AllReadyH.nil)
  try simp only [List.getElem_toArray, List.getElem_cons_succ, List.getElem_cons_zero]
  go_simp
  refine (CLF.out _ B17).mono ?_
  rintro e w19 ⟨rfl, q19, rfl⟩
  have B19 := drewN_below B17 q19
  refine hK.out _ _ (SK.out _ B19) (fun hHeld => ?_)
  clear hK K
  try simp only [Act.put, List.setIfInBounds_toArray, List.set_cons_zero, List.set_cons_succ, List.getElem_toArray, List.getElem_cons_succ, List.getElem_cons_zero]
  refine wpAnyH_take (i := 25) (v := ?_) rfl (by kernel_rfl) (by kernel_rfl) (by kernel_rfl) (fun _ _ _ h => h) (Or.inl ⟨by rfl, ?_⟩) (by assumption) ?_
  rotate_left
  · intro X hSw; (try dsimp only at hSw); (try simp only [List.getElem_toArray, List.getElem_cons_succ, List.getElem_cons_zero]); first | (go_simp; done) | (go_simp; with_reducible rfl)
  try simp only [Act.put, List.setIfInBounds_toArray, List.set_cons_zero, List.set_cons_succ, List.getElem_toArray, List.getElem_cons_succ, List.getElem_cons_zero]
  refine wpAnyH_take (i := 26) (v := ?_) rfl (by kernel_rfl) (by kernel_rfl) (by kernel_rfl) (fun _ _ _ h => h) (Or.inl ⟨by rfl, ?_⟩) (by assumption) ?_
  rotate_left
  · intro X hSw; (try dsimp only at hSw); (try simp only [List.getElem_toArray, List.getElem_cons_succ, List.getElem_cons_zero]); first | (go_simp; done) | (go_simp; with_reducible rfl)
  try simp only [Act.put, List.setIfInBounds_toArray, List.set_cons_zero, List.set_cons_succ, List.getElem_toArray, List.getElem_cons_succ, List.getElem_cons_zero]
  refine wpAnyH_take (i := 27) (v := ?_) rfl (by kernel_rfl) (by kernel_rfl) (by kernel_rfl) (fun _ _ _ h => h) (Or.inl ⟨by rfl, ?_⟩) (by assumption) ?_
  rotate_left
  · intro X hSw; (try dsimp only at hSw); (try simp only [List.getElem_toArray, List.getElem_cons_succ, List.getElem_cons_zero]); first | (go_simp; done) | (go_simp; with_reducible rfl)
  try simp only [Act.put, List.setIfInBounds_toArray, List.set_cons_zero, List.set_cons_succ, List.getElem_toArray, List.getElem_cons_succ, List.getElem_cons_zero]
  refine wpAnyH_done (by kernel_rfl) ?_ _
  have HB19 := Lib.hid (HQ3.out.bel.trans (B19.mono HQ3.out.size))
  clear SK CWR CLF B17 B19 b17
  go_wp2
  go_ret
  exact ⟨rfl, HB19.out⟩
theorem ibytes_walk (x : Ins) (hf : x.Fits) (b : ByteArray) (w : World) :
    Calls Try.prog 6 #[.agg x.cells, .string b] w fun e w' => e = .returned (.bool true) ∧ Below w.heap.size w w' := by
  by_cases h : smallB x.t = true
  · by_cases hb : (3000 : Int) < (b.size : Int)
    · exact ibytes_alive x b w (.inr hb)
    · exact ibytes_main x hf b w h (by omega)
  · exact ibytes_alive x b w (.inl (by simpa using h))
end Go.Proofs.Ytkcecijepbceiaa
