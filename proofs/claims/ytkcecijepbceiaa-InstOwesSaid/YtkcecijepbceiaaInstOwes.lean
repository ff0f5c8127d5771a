/-
  The walk of InstOwes: what is left, and what is to be paid.
  Conditions: an instruction, a number.
-/
import Derived.Test.YtkcecijepbceiaaInstOwesR
namespace Go.Proofs.Ytkcecijepbceiaa
open Go.RowKit

/-- A whole struct read out of a block, in a region that draws its order. -/
theorem yieldsIf_load_row {P : Program} {ops : Array Oper} {S : World → Prop} {op : Oper} {a : Act} (hw : Region.wanted op (yielded ops a.tmps) = true) (ty : TypeId) (x : Operand) (ho : op.op = .load ty x)
    (g : Nat) (hx : a.eval x = .pointer (some ⟨g, 0, none⟩)) (t : TypeId) (cs : Array Value) (d : TypeDesc) (hS : ∀ w, S w → w.heap[g]? = some (.cells cs t (0, 0)))
    (hu : P.underlying ty = some d) (hd : (match d with | .struct _ | .array _ _ => true | _ => false) = true) (hi : (P.info? ty).map (·.size) = some cs.size) : YieldsIf P ops S op (.agg cs) a :=
  .inl ⟨hw, fun w hw' => by
    unfold execOp
    simp only [ho, hx, Instr.loadAt, Instr.sureAddr, Sem.run_bind, Sem.run_pure, Result.andThen_ok, run_loadVar_row w g t ty cs (0, 0) d (hS w hw') hu hd hi]⟩
set_option maxHeartbeats 40000000 in
set_option maxRecDepth 100000 in
theorem iowes_walk (x : Ins) (hf : x.Fits) (n : Int) (hn : In64 n) (w : World) :
    Calls Try.prog 3 #[.agg x.cells, .int .i64 n] w fun e w' => e = .returned (.bool true) ∧ Below w.heap.size w w' := by
  have hq : In64 x.t.q := hf.t.nums _ (by simp [Trm.nums])
  have ha : In64 x.t.am := hf.t.nums _ (by simp [Trm.nums])
  have hd : In64 x.dn := hf.nums _ (by simp)
  have hp : In64 x.pd := hf.nums _ (by simp)
  obtain ⟨id, ⟨p, a, m, o, dl, ss, c, r, q, am, dy, td⟩, pr, part, held, wish, st, ma, dn, pd⟩ := x
  have CO := Lib.hid (fun W => owes_any (.int .i64 id) (.string p) (.string a) (.string m) (.string o) (.bool dl) (.string ss) (.string c) (.string r) (.int .i64 dy) (.int .i64 td) (.int .i64 pr) (.bool part) (.bool held) (.bool wish) (.int .i64 st) (.int .i64 ma) q am dn pd n W hq.1 hq.2 ha.1 ha.2 hd.1 hd.2 hp.1 hp.2 hn.1 hn.2)
  have CR := Lib.hid (fun W => refOwes_any id p a m o dl ss c r q am dy td pr part held wish st ma dn pd n hq ha hd hp hn W)
  have CL := Lib.hid (fun W => left_any (.int .i64 id) (.string p) (.string a) (.string m) (.string o) (.bool dl) (.string ss) (.string c) (.string r) (.int .i64 dy) (.int .i64 td) (.int .i64 pr) (.bool part) (.bool held) (.bool wish) (.int .i64 st) (.int .i64 ma) q am dn pd W hq.1 hq.2 hd.1 hd.2)
  have CM := Lib.hid (fun W => refLeft_any id p a m o dl ss c r q am dy td pr part held wish st ma dn pd hq hd W)
  obtain ⟨V, hV⟩ : ∃ V, Ow.owV q am dn pd n = V := ⟨_, rfl⟩
  obtain ⟨E, hE⟩ : ∃ E, Ow.owE q am dn pd n = E := ⟨_, rfl⟩
  obtain ⟨L, hL⟩ : ∃ L, Ow.left q dn = L := ⟨_, rfl⟩
  rw [hV, hE] at CO CR
  rw [hL] at CL CM
  have hk : (w.alloc (.cells #[.int .i64 id, .string p, .string a, .string m, .string o, .bool dl, .string ss, .string c, .string r, .int .i64 q, .int .i64 am, .int .i64 dy, .int .i64 td, .int .i64 pr, .bool part, .bool held, .bool wish, .int .i64 st, .int .i64 ma, .int .i64 dn, .int .i64 pd] 25)).heap[w.heap.size]? = some (.cells #[.int .i64 id, .string p, .string a, .string m, .string o, .bool dl, .string ss, .string c, .string r, .int .i64 q, .int .i64 am, .int .i64 dy, .int .i64 td, .int .i64 pr, .bool part, .bool held, .bool wish, .int .i64 st, .int .i64 ma, .int .i64 dn, .int .i64 pd] 25 (0, 0)) := heap_alloc_new _ _
  have HK := Lib.hid hk
  have HBW : Hid (Below w.heap.size w (w.alloc (.cells #[.int .i64 id, .string p, .string a, .string m, .string o, .bool dl, .string ss, .string c, .string r, .int .i64 q, .int .i64 am, .int .i64 dy, .int .i64 td, .int .i64 pr, .bool part, .bool held, .bool wish, .int .i64 st, .int .i64 ma, .int .i64 dn, .int .i64 pd] 25))) := (Below.refl _ _).alloc (Nat.le_refl _) _
  clear hk hf hq ha hd hp hn hV hE hL
  show Calls Try.prog 3 #[.agg #[.int .i64 id, .string p, .string a, .string m, .string o, .bool dl, .string ss, .string c, .string r, .int .i64 q, .int .i64 am, .int .i64 dy, .int .i64 td, .int .i64 pr, .bool part, .bool held, .bool wish, .int .i64 st, .int .i64 ma, .int .i64 dn, .int .i64 pd], .int .i64 n] w _
  go_enter Try.func3, Try.ntmps3
  go_wp2_with (refine wpList_load_named rfl 25 _ rfl w.heap.size rfl _ _ _ HK.out Try.underlying25 rfl size_inst _ rfl ?_)
  refine (CO.out _).mono ?_
  rintro e w1 ⟨rfl, hb1⟩
  have HB1 := Lib.hid (HBW.out.trans (hb1.mono HBW.out.size))
  have HK1 := Lib.hid ((hb1.block w.heap.size (by simp)).trans HK.out)
  obtain ⟨b1, hbb⟩ : ∃ b1, w.heap.size = b1 := ⟨_, rfl⟩
  rw [hbb] at HK1 ⊢
  have HBB := Lib.hid hbb
  clear hb1 hbb HK HBW CO
  go_wp2_with (refine wpList_load_named rfl 25 _ rfl b1 rfl _ _ _ HK1.out Try.underlying25 rfl size_inst _ rfl ?_)
  refine (CR.out _).mono ?_
  rintro e w2 ⟨rfl, hb2⟩
  have HB2 := Lib.hid (HB1.out.trans (hb2.mono HB1.out.size))
  have HK2 := Lib.hid ((hb2.block b1 (Blk.lt (t := 25) HK1.out)).trans HK1.out)
  clear hb2 HB1 HK1 CR
  have S0 := HK2.out
  have S0' : w2.heap[b1]? = some (.cells #[.int .i64 id, .string p, .string a, .string m, .string o, .bool dl, .string ss, .string c, .string r, .int .i64 q, .int .i64 am, .int .i64 dy, .int .i64 td, .int .i64 pr, .bool part, .bool held, .bool wish, .int .i64 st, .int .i64 ma, .int .i64 dn, .int .i64 pd] 25 (0, 0)) := HK2.out
  have SK : Hid (∀ X, Below w2.heap.size w2 X → X.heap[b1]? = some (.cells #[.int .i64 id, .string p, .string a, .string m, .string o, .bool dl, .string ss, .string c, .string r, .int .i64 q, .int .i64 am, .int .i64 dy, .int .i64 td, .int .i64 pr, .bool part, .bool held, .bool wish, .int .i64 st, .int .i64 ma, .int .i64 dn, .int .i64 pd] 25 (0, 0))) := fun X hb => (hb.block b1 (Blk.lt (t := 25) HK2.out)).trans HK2.out
  clear S0
  go_wp2
  refine wp_region_held_drew (S := fun X => X.heap[b1]? = some (.cells #[.int .i64 id, .string p, .string a, .string m, .string o, .bool dl, .string ss, .string c, .string r, .int .i64 q, .int .i64 am, .int .i64 dy, .int .i64 td, .int .i64 pr, .bool part, .bool held, .bool wish, .int .i64 st, .int .i64 ma, .int .i64 dn, .int .i64 pd] 25 (0, 0))) (by kernel_rfl) S0' (fun hHeld => ?_)
  refine wpAnyH_ready (rs := [0]) (by kernel_rfl) (by simp) (AllReadyH.cons rfl (fun K hK => ?_) AllReadyH.nil)
  try simp only [List.getElem_toArray, List.getElem_cons_zero]
  go_simp
  refine (alive12_any _).mono ?_
  rintro e w3 ⟨rfl, b3⟩
  have B3 : Below w2.heap.size w2 w3 := ((Below.refl w2.heap.size w2).drew).trans b3
  refine hK.out _ _ (SK.out _ B3) (fun hHeld => ?_)
  clear hK K
  try simp only [Act.put, List.setIfInBounds_toArray, List.set_cons_zero, List.set_cons_succ, List.getElem_toArray, List.getElem_cons_succ, List.getElem_cons_zero]
  refine wpAnyH_take (i := 1) (v := ?_) rfl (by kernel_rfl) (by kernel_rfl) (by kernel_rfl) (fun _ _ _ h => h) (Or.inl ⟨by rfl, ?_⟩) (by assumption) ?_
  rotate_left
  · intro X hSw; (try dsimp only at hSw); (try simp only [List.getElem_toArray, List.getElem_cons_succ, List.getElem_cons_zero]); first | (go_simp; done) | (go_simp; with_reducible rfl)
  try simp only [Act.put, List.setIfInBounds_toArray, List.set_cons_zero, List.set_cons_succ, List.getElem_toArray, List.getElem_cons_succ, List.getElem_cons_zero]
  refine wpAnyH_take (i := 2) (v := ?_) rfl (by kernel_rfl) (by kernel_rfl) (by kernel_rfl) (fun _ _ _ h => h) (Or.inl ⟨by rfl, ?_⟩) (by assumption) ?_
  rotate_left
  · intro X hSw; (try dsimp only at hSw); (try simp only [List.getElem_toArray, List.getElem_cons_succ, List.getElem_cons_zero]); first | (go_simp; done) | (go_simp; with_reducible rfl)
  try simp only [Act.put, List.setIfInBounds_toArray, List.set_cons_zero, List.set_cons_succ, List.getElem_toArray, List.getElem_cons_succ, List.getElem_cons_zero]
  refine wpAnyH_take (i := 3) (v := ?_) rfl (by kernel_rfl) (by kernel_rfl) (by kernel_rfl) (fun _ _ _ h => h) (Or.inl ⟨by rfl, ?_⟩) (by assumption) ?_
  rotate_left
  · intro X hSw; (try dsimp only at hSw); (try simp only [List.getElem_toArray, List.getElem_cons_succ, List.getElem_cons_zero]); first | (go_simp; done) | (go_simp; with_reducible rfl)
  try simp only [Act.put, List.setIfInBounds_toArray, List.set_cons_zero, List.set_cons_succ, List.getElem_toArray, List.getElem_cons_succ, List.getElem_cons_zero]
  refine wpAnyH_take (i := 4) (v := ?_) rfl (by kernel_rfl) (by kernel_rfl) (by kernel_rfl) (fun _ _ _ h => h) (Or.inl ⟨by rfl, ?_⟩) (by assumption) ?_
  rotate_left
  · intro X hSw; (try dsimp only at hSw); (try simp only [List.getElem_toArray, List.getElem_cons_succ, List.getElem_cons_zero]); first | (go_simp; done) | (go_simp; with_reducible rfl)
  try simp only [Act.put, List.setIfInBounds_toArray, List.set_cons_zero, List.set_cons_succ, List.getElem_toArray, List.getElem_cons_succ, List.getElem_cons_zero]
  refine wpAnyH_take (i := 5) (v := ?_) rfl (by kernel_rfl) (by kernel_rfl) (by kernel_rfl) (fun _ _ _ h => h) (Or.inl ⟨by rfl, ?_⟩) (by assumption) ?_
  rotate_left
  · intro X hSw; (try dsimp only at hSw); (try simp only [List.getElem_toArray, List.getElem_cons_succ, List.getElem_cons_zero]); first | (go_simp; done) | (go_simp; with_reducible rfl)
  try simp only [Act.put, List.setIfInBounds_toArray, List.set_cons_zero, List.set_cons_succ, List.getElem_toArray, List.getElem_cons_succ, List.getElem_cons_zero]
  refine wpAnyH_take (i := 6) (v := ?_) rfl (by kernel_rfl) (by kernel_rfl) (by kernel_rfl) (fun _ _ _ h => h) (Or.inl ⟨by rfl, ?_⟩) (by assumption) ?_
  rotate_left
  · intro X hSw; (try dsimp only at hSw); (try simp only [List.getElem_toArray, List.getElem_cons_succ, List.getElem_cons_zero]); first | (go_simp; done) | (go_simp; with_reducible rfl)
  try simp only [Act.put, List.setIfInBounds_toArray, List.set_cons_zero, List.set_cons_succ, List.getElem_toArray, List.getElem_cons_succ, List.getElem_cons_zero]
  refine wpAnyH_take (i := 7) (v := ?_) rfl (by kernel_rfl) (by kernel_rfl) (by kernel_rfl) (fun _ _ _ h => h) (Or.inl ⟨by rfl, ?_⟩) (by assumption) ?_
  rotate_left
  · intro X hSw; (try dsimp only at hSw); (try simp only [List.getElem_toArray, List.getElem_cons_succ, List.getElem_cons_zero]); first | (go_simp; done) | (go_simp; with_reducible rfl)
  try simp only [Act.put, List.setIfInBounds_toArray, List.set_cons_zero, List.set_cons_succ, List.getElem_toArray, List.getElem_cons_succ, List.getElem_cons_zero]
  refine wpAnyH_take (i := 8) (v := ?_) rfl (by kernel_rfl) (by kernel_rfl) (by kernel_rfl) (fun _ _ _ h => h) (Or.inl ⟨by rfl, ?_⟩) (by assumption) ?_
  rotate_left
  · intro X hSw; (try dsimp only at hSw); (try simp only [List.getElem_toArray, List.getElem_cons_succ, List.getElem_cons_zero]); first | (go_simp; done) | (go_simp; with_reducible rfl)
  try simp only [Act.put, List.setIfInBounds_toArray, List.set_cons_zero, List.set_cons_succ, List.getElem_toArray, List.getElem_cons_succ, List.getElem_cons_zero]
  refine wpAnyH_take (i := 9) (v := ?_) rfl (by kernel_rfl) (by kernel_rfl) (by kernel_rfl) (fun _ _ _ h => h) (Or.inl ⟨by rfl, ?_⟩) (by assumption) ?_
  rotate_left
  · intro X hSw; (try dsimp only at hSw); (try simp only [List.getElem_toArray, List.getElem_cons_succ, List.getElem_cons_zero]); first | (go_simp; done) | (go_simp; with_reducible rfl)
  try simp only [Act.put, List.setIfInBounds_toArray, List.set_cons_zero, List.set_cons_succ, List.getElem_toArray, List.getElem_cons_succ, List.getElem_cons_zero]
  refine wpAnyH_take (i := 10) (v := ?_) rfl (by kernel_rfl) (by kernel_rfl) (by kernel_rfl) (fun _ _ _ h => h) (Or.inl ⟨by rfl, ?_⟩) (by assumption) ?_
  rotate_left
  · intro X hSw; (try dsimp only at hSw); (try simp only [List.getElem_toArray, List.getElem_cons_succ, List.getElem_cons_zero]); first | (go_simp; done) | (go_simp; with_reducible rfl)
  try simp only [Act.put, List.setIfInBounds_toArray, List.set_cons_zero, List.set_cons_succ, List.getElem_toArray, List.getElem_cons_succ, List.getElem_cons_zero]
  refine wpAnyH_take (i := 11) (v := ?_) rfl (by kernel_rfl) (by kernel_rfl) (by kernel_rfl) (fun _ _ _ h => h) (Or.inl ⟨by rfl, ?_⟩) (by assumption) ?_
  rotate_left
  · intro X hSw; (try dsimp only at hSw); (try simp only [List.getElem_toArray, List.getElem_cons_succ, List.getElem_cons_zero]); first | (go_simp; done) | (go_simp; with_reducible rfl)
  try simp only [Act.put, List.setIfInBounds_toArray, List.set_cons_zero, List.set_cons_succ, List.getElem_toArray, List.getElem_cons_succ, List.getElem_cons_zero]
  refine wpAnyH_take (i := 12) (v := .agg #[.int .i64 id, .string p, .string a, .string m, .string o, .bool dl, .string ss, .string c, .string r, .int .i64 q, .int .i64 am, .int .i64 dy, .int .i64 td, .int .i64 pr, .bool part, .bool held, .bool wish, .int .i64 st, .int .i64 ma, .int .i64 dn, .int .i64 pd]) rfl (by kernel_rfl) (by kernel_rfl) (by kernel_rfl) (fun _ _ _ h => h) (yieldsIf_load_row (by rfl) 25 _ rfl b1 rfl 25 #[.int .i64 id, .string p, .string a, .string m, .string o, .bool dl, .string ss, .string c, .string r, .int .i64 q, .int .i64 am, .int .i64 dy, .int .i64 td, .int .i64 pr, .bool part, .bool held, .bool wish, .int .i64 st, .int .i64 ma, .int .i64 dn, .int .i64 pd] _ (fun _ h => h) Try.underlying25 rfl size_inst) (by assumption) ?_
  try simp only [Act.put, List.setIfInBounds_toArray, List.set_cons_zero, List.set_cons_succ, List.getElem_toArray, List.getElem_cons_succ, List.getElem_cons_zero]
  refine wpAnyH_take (i := 14) (v := .agg #[.int .i64 id, .string p, .string a, .string m, .string o, .bool dl, .string ss, .string c, .string r, .int .i64 q, .int .i64 am, .int .i64 dy, .int .i64 td, .int .i64 pr, .bool part, .bool held, .bool wish, .int .i64 st, .int .i64 ma, .int .i64 dn, .int .i64 pd]) rfl (by kernel_rfl) (by kernel_rfl) (by kernel_rfl) (fun _ _ _ h => h) (yieldsIf_load_row (by rfl) 25 _ rfl b1 rfl 25 #[.int .i64 id, .string p, .string a, .string m, .string o, .bool dl, .string ss, .string c, .string r, .int .i64 q, .int .i64 am, .int .i64 dy, .int .i64 td, .int .i64 pr, .bool part, .bool held, .bool wish, .int .i64 st, .int .i64 ma, .int .i64 dn, .int .i64 pd] _ (fun _ h => h) Try.underlying25 rfl size_inst) (by assumption) ?_
  try simp only [Act.put, List.setIfInBounds_toArray, List.set_cons_zero, List.set_cons_succ, List.getElem_toArray, List.getElem_cons_succ, List.getElem_cons_zero]
  refine wpAnyH_ready (rs := [13]) (by kernel_rfl) (by simp) (AllReadyH.cons rfl (fun K hK => ?_) AllReadyH.nil)
  try simp only [List.getElem_toArray, List.getElem_cons_succ, List.getElem_cons_zero]
  go_simp
  refine (CL.out _).mono ?_
  rintro e w4 ⟨rfl, b4⟩
  have B4 := B3.trans (b4.mono B3.size)
  refine hK.out _ _ (SK.out _ B4) (fun hHeld => ?_)
  clear hK K
  try simp only [Act.put, List.setIfInBounds_toArray, List.set_cons_zero, List.set_cons_succ, List.getElem_toArray, List.getElem_cons_succ, List.getElem_cons_zero]
  refine wpAnyH_ready (rs := [15]) (by kernel_rfl) (by simp) (AllReadyH.cons rfl (fun K hK => ?_) AllReadyH.nil)
  try simp only [List.getElem_toArray, List.getElem_cons_succ, List.getElem_cons_zero]
  go_simp
  refine (CM.out _).mono ?_
  rintro e w5 ⟨rfl, b5⟩
  have B5 := B4.trans (b5.mono B4.size)
  refine hK.out _ _ (SK.out _ B5) (fun hHeld => ?_)
  clear hK K
  try simp only [Act.put, List.setIfInBounds_toArray, List.set_cons_zero, List.set_cons_succ, List.getElem_toArray, List.getElem_cons_succ, List.getElem_cons_zero]
  refine wpAnyH_take (i := 16) (v := ?_) rfl (by kernel_rfl) (by kernel_rfl) (by kernel_rfl) (fun _ _ _ h => h) (Or.inl ⟨by rfl, ?_⟩) (by assumption) ?_
  rotate_left
  · intro X hSw; (try dsimp only at hSw); (try simp only [List.getElem_toArray, List.getElem_cons_succ, List.getElem_cons_zero]); first | (go_simp; done) | (go_simp; with_reducible rfl)
  try simp only [Act.put, List.setIfInBounds_toArray, List.set_cons_zero, List.set_cons_succ, List.getElem_toArray, List.getElem_cons_succ, List.getElem_cons_zero]
  refine wpAnyH_take (i := 17) (v := ?_) rfl (by kernel_rfl) (by kernel_rfl) (by kernel_rfl) (fun _ _ _ h => h) (Or.inl ⟨by rfl, ?_⟩) (by assumption) ?_
  rotate_left
  · intro X hSw; (try dsimp only at hSw); (try simp only [List.getElem_toArray, List.getElem_cons_succ, List.getElem_cons_zero]); first | (go_simp; done) | (go_simp; with_reducible rfl)
  try simp only [Act.put, List.setIfInBounds_toArray, List.set_cons_zero, List.set_cons_succ, List.getElem_toArray, List.getElem_cons_succ, List.getElem_cons_zero]
  refine wpAnyH_take (i := 18) (v := ?_) rfl (by kernel_rfl) (by kernel_rfl) (by kernel_rfl) (fun _ _ _ h => h) (Or.inl ⟨by rfl, ?_⟩) (by assumption) ?_
  rotate_left
  · intro X hSw; (try dsimp only at hSw); (try simp only [List.getElem_toArray, List.getElem_cons_succ, List.getElem_cons_zero]); first | (go_simp; done) | (go_simp; with_reducible rfl)
  try simp only [Act.put, List.setIfInBounds_toArray, List.set_cons_zero, List.set_cons_succ, List.getElem_toArray, List.getElem_cons_succ, List.getElem_cons_zero]
  refine wpAnyH_done (by kernel_rfl) ?_ _
  have HB5 := Lib.hid (HB2.out.trans (B5.mono HB2.out.size))
  clear SK b3 b4 b5 B3 B4 B5
  go_wp2
  go_ret
  exact ⟨rfl, HB5.out⟩
end Go.Proofs.Ytkcecijepbceiaa
