/-
  An argument that is a slice of pledges, opened; two equal lists of pledges compared.
  Conditions: the call's own.
-/
import Derived.Test.YtiekolbkmgdfoaaOpenSts
import Derived.Test.YtiekolbkmgdfoaaListOf
import Derived.Test.YtiekolbkmgdfoaaValueEnough
namespace Go.Proofs.Ytiekolbkmgdfoaa
open Go.ChangeShapes Go.WideShapes Go.ChangeAt Go.RowKit Go.Deep
set_option maxRecDepth 100000

theorem cells_pledge : Try.prog.cellsOf 36 = 2 := by kernel_rfl
section
variable {H : Type} {enc : TypeId × Value → H} {w : World} {base : Nat} {spare : Nat → Bool} {held : Bool}
theorem open_pledge {n : Nat} {cs : List Value} {y : DataW H × List MemPlace} (hl : cs.length = 2) (h : DataW.trod enc Try.prog w base spare held n 36 cs = some y) : ∃ x : ByteArray × Int, cs = [.string x.1, .int .i64 x.2] ∧ x.1.size ≤ 9223372036854775807 ∧ -9223372036854775808 ≤ x.2 ∧ x.2 ≤ 9223372036854775807 := by
  match cs, hl with
  | [c0, c1], _ =>
    obtain ⟨ys, n', _, _, hlen, hyl, hf⟩ := DataW.trod_struct Try.underlying36 h
    have g : ∀ j, j < 2 → ∃ y, ys[j]? = some y := fun j hj => ⟨_, List.getElem?_eq_getElem (by rw [hyl]; exact hj)⟩
    obtain ⟨y0, e0⟩ := g 0 (by omega)
    obtain ⟨y1, e1⟩ := g 1 (by omega)
    have f0 : DataW.trod enc Try.prog w base spare held n' 9 (List.take (Try.prog.cellsOf 9) (List.drop 0 [c0, c1])) = some y0 := (hf 0 _ rfl).trans e0
    have f1 : DataW.trod enc Try.prog w base spare held n' 3 (List.take (Try.prog.cellsOf 3) (List.drop 1 [c0, c1])) = some y1 := (hf 1 _ rfl).trans e1
    simp only [cells_string, cells_int1, List.drop, List.take] at f0 f1
    obtain ⟨nm, hnm, _, hz⟩ := DataW.trod_string Try.underlying9 f0
    obtain ⟨q, hq, _, wq⟩ := DataW.trod_int Try.underlying3 f1
    simp only [List.cons.injEq, and_true] at hnm hq
    subst hnm hq
    unfold maxLen at hz
    exact ⟨(nm, q), rfl, hz, (bounds_i64 wq).1, (bounds_i64 wq).2⟩
end
theorem plCells_inv (l : List (ByteArray × Int)) : ∀ (j : Nat) (v : Value), (Vl.plCells l)[j]? = some v → ∃ x, l[j / 2]? = some x ∧ [Value.string x.1, .int .i64 x.2][j % 2]? = some v := by
  induction l with
  | nil => intro j v h; simp [Vl.plCells] at h
  | cons y l ih =>
    intro j v h
    have e : Vl.plCells (y :: l) = .string y.1 :: .int .i64 y.2 :: Vl.plCells l := rfl
    rw [e] at h
    match j, h with
    | 0, h => exact ⟨y, rfl, by simpa using h⟩
    | 1, h => exact ⟨y, rfl, by simpa using h⟩
    | j + 2, h =>
      obtain ⟨x, h1, h2⟩ := ih j v (by simpa using h)
      refine ⟨x, ?_, ?_⟩
      · rw [show (j + 2) / 2 = j / 2 + 1 from by omega]; simpa using h1
      · rw [show (j + 2) % 2 = j % 2 from by omega]; exact h2
/-- A slice of pledges that came in. -/
theorem open_pledges {H : Type} {enc : TypeId × Value → H} {W : World} {v : Value} {d : DataW H} {ps : List MemPlace}
    (hv : ∃ a n c, v = .slice a n c) (h : DataW.Trod enc Try.prog W 0 (fun _ => true) true 28 v d ps) (hlt : ∀ x ∈ ps, x.block < W.heap.size) :
    ∃ (A : Option Addr) (c : Nat) (l : List (ByteArray × Int)), v = .slice A l.length c ∧ Reads W W.heap.size 2 A l.length (Vl.plCells l) ∧ l.length ≤ c ∧ l.length ≤ 9223372036854775807 ∧ ∀ x ∈ l, x.1.size ≤ 9223372036854775807 ∧ -9223372036854775808 ≤ x.2 ∧ x.2 ≤ 9223372036854775807 := by
  obtain ⟨a0, n0, c0, rfl⟩ := hv
  obtain ⟨fuel, hf⟩ := h
  rcases open_slice Try.underlying28 hf with ⟨hcs, hx⟩ | ⟨a, len, cap, m, n, D, Pl, hcs, _, hl, hm, hmm, hx, hi⟩
  · simp [Value.cells] at hcs
    obtain ⟨rfl, rfl, rfl⟩ := hcs
    exact ⟨none, 0, [], rfl, Reads.none_, Nat.le_refl _, by simp, by simp⟩
  · simp [Value.cells] at hcs
    obtain ⟨rfl, rfl, rfl⟩ := hcs
    simp only [if_true] at hmm
    unfold maxLen at hm
    have hall : ∀ i, i < n0 → ∃ x : ByteArray × Int, (x.1.size ≤ 9223372036854775807 ∧ -9223372036854775808 ≤ x.2 ∧ x.2 ≤ 9223372036854775807) ∧ ∀ j v, [Value.string x.1, .int .i64 x.2][j]? = some v → W.cell? ((a.add (i * 2)).add j) = some v := by
      intro i hin
      obtain ⟨cs', hc, ht'⟩ := hi i (by omega)
      rw [cells_pledge] at hc
      obtain ⟨_, hcl, hat⟩ := World.cells?_some hc
      obtain ⟨x, rfl, hfx⟩ := open_pledge hcl ht'
      refine ⟨x, hfx, fun j v hj => ?_⟩
      have hjl : j < 2 := (List.getElem?_eq_some_iff.1 hj).1
      rw [hat j hjl]
      exact hj
    obtain ⟨l, hll, hli⟩ := list_of hall
    refine ⟨some a, c0, l, by rw [hll], ⟨Vl.plCells_len l, fun hn => ⟨a, rfl, ?_, fun j v hj => ?_⟩⟩, by omega, by omega, fun x hx => ?_⟩
    · simp only [Prod.mk.injEq] at hx
      obtain ⟨_, rfl⟩ := hx
      rw [cells_pledge] at hlt
      obtain ⟨p, hp, hpb⟩ := row_mem (ad := a) (n := m * 2) (by omega)
      rw [← hpb]
      exact hlt p (by simp [hp])
    · obtain ⟨x, h1, h2⟩ := plCells_inv l j v hj
      have h3 := (hli _ x h1).2 _ v h2
      rw [add_of_add, show j / 2 * 2 + j % 2 = j from by omega] at h3
      exact h3
    · obtain ⟨i, hi9, hix⟩ := List.getElem_of_mem hx
      exact (hli i x (by rw [← hix]; exact List.getElem?_eq_getElem hi9)).1
/-- Two pledges compared, in a region that draws. -/
theorem wpQuiet_eq_pledge {ops : Array Oper} {C : World → Prop} {Q : Act → Prop} {rest : List Oper} {o : Oper} {a : Act} (hw : Region.wanted o (yielded ops a.tmps) = true) (x y : Operand) (z : TypeId) (ho : o.op = .binOp .eql 36 x y z)
    (s s' : ByteArray) (q q' : Int) (hx : a.eval x = .agg #[.string s, .int .i64 q]) (hy : a.eval y = .agg #[.string s', .int .i64 q'])
    (h : wpQuiet Try.prog ops C Q rest (a.put o.dst (.bool (s.toList == s'.toList && q == q')))) : wpQuiet Try.prog ops C Q (o :: rest) a := by
  refine BigFrame.wpQuiet_want hw fun K hK => ⟨_, fun w _ => ?_, hK _ h⟩
  have h1 := run_eqGuard_agg (P := Try.prog) w .eql 36 x y #[.string s, .int .i64 q] #[.string s', .int .i64 q'] eqg_pledge
  have h2 := run_eql_struct (P := Try.prog) w 36 #[.string s, .int .i64 q] #[.string s', .int .i64 q']
  rw [run_eq_pledge] at h2
  unfold Oper.quietAt execOp
  simp only [ho, hx, hy, Sem.run_bind, h1, h2, Result.andThen_ok]
  exact ⟨rfl, rfl⟩
set_option maxHeartbeats 4000000 in
theorem same_pledges (l : List (ByteArray × Int)) (n : Nat) (hn : l.length = n) (hl : n ≤ 1000000) (A A' : Option Addr) (c c' B B' : Nat) (w : World) (h : Reads w B 2 A n (Vl.plCells l)) (h' : Reads w B' 2 A' n (Vl.plCells l)) :
    Calls Try.prog 13 #[.slice A n c, .slice A' n c'] w fun e w' => e = .returned (.bool true) ∧ Below w.heap.size w w' := by
  have HN := Lib.hid hn; have H1 := Lib.hid h; have H2 := Lib.hid h'
  clear hn h h'
  go_enter Try.func13, Try.ntmps13
  go_wp2
  go_loopw [5] (fun i wr => ∃ j : Nat, j ≤ n ∧ i = .int .i64 j ∧ Hid (Reads wr B 2 A n (Vl.plCells l)) ∧ Hid (Reads wr B' 2 A' n (Vl.plCells l)) ∧ Hid (Below w.heap.size w wr)) (fun i _ => n - (intOf i).toNat)
  case atStart => exact ⟨0, Nat.zero_le _, rfl, H1.out, H2.out, Below.refl _ _⟩
  case round =>
    obtain ⟨j, hj, rfl, HRA, HRB, HB⟩ := hrel
    by_cases hlt : j < n
    · obtain ⟨ad, s, q, rfl, hab, hk1, hc1⟩ := pl_at HRA.out (show j < l.length by rw [HN.out]; exact hlt)
      obtain ⟨ae, s', q', rfl, hae, hk2, hc2⟩ := pl_at HRB.out (show j < l.length by rw [HN.out]; exact hlt)
      rw [hk1] at hk2
      simp only [Option.some.injEq, Prod.mk.injEq] at hk2
      obtain ⟨rfl, rfl⟩ := hk2
      have HC1 := Lib.hid hc1; have HC2 := Lib.hid hc2
      clear hc1 hc2 hk1
      go_wp2
      refine wp_region_quiet_lit (by kernel_rfl) (by kernel_rfl) ?_
      repeat (first
        | (refine wpQuiet_load_cells rfl 36 _ rfl (ad.add (j * 2)) rfl [.string s, .int .i64 q] _ ?cc Try.underlying36 rfl size_pledge ?_; (case cc => rintro _ ⟨nq, rfl⟩; exact HC1.out); simp only [Act.put, List.setIfInBounds_toArray, List.set_cons_succ, List.set_cons_zero])
        | (refine wpQuiet_load_cells rfl 36 _ rfl (ae.add (j * 2)) rfl [.string s, .int .i64 q] _ ?cc Try.underlying36 rfl size_pledge ?_; (case cc => rintro _ ⟨nq, rfl⟩; exact HC2.out); simp only [Act.put, List.setIfInBounds_toArray, List.set_cons_succ, List.set_cons_zero])
        | (refine wpQuiet_eq_pledge rfl _ _ _ rfl s s q q rfl rfl ?_; simp only [Act.put, List.setIfInBounds_toArray, List.set_cons_succ, List.set_cons_zero, beq_self_eq_true, Bool.and_self])
        | go_big_quiet_step (fail))
      refine wpQuiet_nil ?_
      rintro _ ⟨nq, rfl⟩
      go_wp2
      go_round
      case rel => exact ⟨j + 1, by omega, by go_num, HRA.out, HRB.out, drewN_below HB.out nq⟩
      case measure => simp [intOf]; omega
    · obtain rfl : j = n := by omega
      go_wp2
      go_ret
      exact ⟨rfl, HB.out⟩
end Go.Proofs.Ytiekolbkmgdfoaa
