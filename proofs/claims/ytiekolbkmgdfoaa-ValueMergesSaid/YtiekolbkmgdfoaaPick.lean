/-
  Package value's Pick as a contract.
  Conditions: stocks in a list that the call reads.
-/
import Derived.Test.YtiekolbkmgdfoaaMuch2
import Derived.Test.YtiekolbkmgdfoaaMv
import Derived.Deep.WholeRow
namespace Go.Proofs.Ytiekolbkmgdfoaa
open Go.RowKit

/-- Stocks in memory. -/
def StsAt (w : World) (B : Nat) (A : Option Addr) (l : List Vl.St) : Prop :=
  0 < l.length → ∃ ad, A = some ad ∧ ad.block < B ∧ ∀ k x, l[k]? = some x → ∀ j v, x.cells[j]? = some v → w.cell? ((ad.add (k * 9)).add j) = some v
theorem StsAt.below {w w' : World} {B : Nat} {A : Option Addr} {l : List Vl.St} (h : StsAt w B A l) (hb : Below B w w') : StsAt w' B A l := fun hn => by
  obtain ⟨ad, e, hB, hc⟩ := h hn
  exact ⟨ad, e, hB, fun k x hx j v hv => (hb.cell (by rw [block_of_add, block_of_add]; exact hB)).trans (hc k x hx j v hv)⟩
theorem StsAt.at_ {w : World} {B : Nat} {A : Option Addr} {l : List Vl.St} (h : StsAt w B A l) {k : Nat} (hk : k < l.length) :
    ∃ ad x, A = some ad ∧ ad.block < B ∧ l[k]? = some x ∧ ∀ j v, x.cells[j]? = some v → w.cell? ((ad.add (k * 9)).add j) = some v := by
  obtain ⟨ad, e, hB, hc⟩ := h (by omega)
  exact ⟨ad, l[k], e, hB, List.getElem?_eq_getElem hk, hc k _ (List.getElem?_eq_getElem hk)⟩
/-- A whole struct read out of wherever its cells lie. -/
theorem wpList_load_cells {P : Program} {ops : Array Oper} {rest : List Oper} {o : Oper} {a : Act} {w : World} {Q : Exit → Act → World → Prop} (hw : Region.wanted o (yielded ops a.tmps) = true) (ty : TypeId) (x : Operand) (ho : o.op = .load ty x)
    (ad : Addr) (hx : a.eval x = .pointer (some ad)) (cs : List Value) (d : TypeDesc) (hc : ∀ j v, cs[j]? = some v → w.cell? (ad.add j) = some v)
    (hu : P.underlying ty = some d) (hd : (match d with | .struct _ | .array _ _ => true | _ => false) = true) (hi : (P.info? ty).map (·.size) = some cs.length)
    (h : wpList P ops Q rest (a.put o.dst (.agg cs.toArray)) w) : wpList P ops Q (o :: rest) a w := by
  refine BigFrame.wpList_want hw fun K hK => ?_
  have hl := run_loadCells_list (P := P) w ad cs hc
  have hrun : (loadVar ty ad).run P w = .ok (.agg cs.toArray) w := by
    cases hq : P.info? ty with
    | none => simp [hq] at hi
    | some i =>
      have hs : i.size = cs.length := by simpa [hq] using hi
      have hagg : (isAgg ty).run P w = .ok true w := by
        unfold isAgg
        rw [Sem.run_bind, run_underlying hu w]
        cases d <;> simp_all
      simp [loadVar, Sem.run_bind, hagg, sizeOf, typeInfo, hq, hs, hl]
  unfold Oper.wp execOp
  simp only [ho, hx, Instr.loadAt, Instr.sureAddr, Sem.run_bind, Sem.run_pure, Result.andThen_ok, hrun]
  exact hK _ _ h
/-- A whole struct read out of a block that holds it. -/
theorem wpList_load_block {P : Program} {ops : Array Oper} {rest : List Oper} {o : Oper} {a : Act} {w : World} {Q : Exit → Act → World → Prop} (hw : Region.wanted o (yielded ops a.tmps) = true) (ty : TypeId) (x : Operand) (ho : o.op = .load ty x)
    (g : Nat) (hx : a.eval x = .pointer (some ⟨g, 0, none⟩)) (t : TypeId) (cs : Array Value) (d : TypeDesc) (hg : w.heap[g]? = some (.cells cs t (0, 0)))
    (hu : P.underlying ty = some d) (hd : (match d with | .struct _ | .array _ _ => true | _ => false) = true) (hi : (P.info? ty).map (·.size) = some cs.size)
    (h : wpList P ops Q rest (a.put o.dst (.agg cs)) w) : wpList P ops Q (o :: rest) a w :=
  BigFrame.wpList_want hw fun _ hK => wp_load_row ty x ho g hx t cs (0, 0) d hg hu hd hi (hK _ _ h)
/-- A whole struct stored into the block that was made last. -/
theorem wpList_store_last {P : Program} {ops : Array Oper} {rest : List Oper} {o : Oper} {a : Act} {Q : Exit → Act → World → Prop} (hw : Region.wanted o (yielded ops a.tmps) = true) (ty : TypeId) (x y : Operand) (ho : o.op = .store ty x y)
    (w : World) (t : TypeId) (old cells : Array Value) (hx : a.eval x = .pointer (some ⟨w.heap.size, 0, none⟩)) (hy : a.eval y = .agg cells)
    (hi : (P.info? ty).map (·.size) = some cells.size) (hold : old.size = cells.size) (h1 : cells.all (·.oneCell') = true)
    (h : wpList P ops Q rest (a.put o.dst undef) (w.alloc (.cells cells t))) : wpList P ops Q (o :: rest) a (w.alloc (.cells old t)) :=
  BigFrame.wpList_want hw fun K hK => wp_store_row ty x y ho w.heap.size cells hx hy t old (heap_alloc_new w _) hi hold h1 (by rw [World.setRow_alloc_new]; exact hK _ _ h)
/-- One element of two cells in a new block. -/
theorem reads_new2 (w : World) (u v : Value) (t : TypeId) : Reads (w.alloc (.cells #[u, v] t)) (w.heap.size + 1) 2 (some ⟨w.heap.size, 0, none⟩) 1 [u, v] := by
  refine ⟨rfl, fun _ => ⟨_, rfl, Nat.lt_succ_self _, fun j x hx => ?_⟩⟩
  have h : (w.alloc (.cells #[u, v] t)).heap[w.heap.size]? = some (.cells #[u, v] t (0, 0)) := heap_alloc_new w _
  have e : ((⟨w.heap.size, 0, none⟩ : Addr).add j) = ⟨w.heap.size, j, none⟩ := by
    unfold Addr.add; split
    · rename_i h; subst h; rfl
    · simp
  rw [e]
  simp only [World.cell?, h]
  simpa using hx
theorem ownsRow_keep {w w' : World} {base : Nat} {e : TypeId} {size : Nat} {v : Value} {n : Nat} {xs : List Value} (h : w.ownsRow base e size v n xs) (hb : ∀ k, v.ownBlock = some k → w'.heap[k]? = w.heap[k]?) : w'.ownsRow base e size v n xs := by
  obtain ⟨h1, h2⟩ := h
  refine ⟨h1, ?_⟩
  rcases h2 with h2 | ⟨g, cap, cur, hv, hg, hh, r⟩
  · exact .inl h2
  · exact .inr ⟨g, cap, cur, hv, hg, by rw [hb g (by rw [hv]; rfl)]; exact hh, r⟩
theorem size_stock : (Try.prog.info? 27).map (·.size) = some 9 := by kernel_rfl
theorem info_pledge : (Try.prog.info? 36).map (fun i => (i.zero, i.size, i.bytes)) = some (some (.agg #[.string ⟨#[]⟩, .int .i64 0]), 2, 24) := by kernel_rfl

namespace Vl
/-- What is picked: of which how much; and what is lacking in the end. -/
def pk : Int → List St → List (ByteArray × Int) × Int
  | k, [] => ([], k)
  | k, x :: r => if k ≤ 0 then ([], k) else if 0 < muchQ k x then ((x.nm, muchQ k x) :: (pk (k - muchW k x) r).1, (pk (k - muchW k x) r).2) else pk k r
def plCells (l : List (ByteArray × Int)) : List Value := l.flatMap fun x => [.string x.1, .int .i64 x.2]
theorem plCells_snoc (l : List (ByteArray × Int)) (x : ByteArray × Int) : plCells (l ++ [x]) = plCells l ++ [.string x.1, .int .i64 x.2] := by simp [plCells]
theorem plCells_len (l : List (ByteArray × Int)) : (plCells l).length = l.length * 2 := by
  induction l with
  | nil => rfl
  | cons x l ih => simp [plCells] at ih ⊢; omega
theorem pk_done {k : Int} {l : List St} (h : k ≤ 0) : pk k l = ([], k) := by
  cases l
  · rfl
  · simp only [pk]; rw [if_pos h]
theorem muchW_range (k : Int) (x : St) : 0 ≤ muchW k x ∧ muchW k x ≤ 1152921504606846976 := by
  unfold muchW
  split
  · omega
  · split
    · omega
    · exact Wo.wV_range _ _ _
/-- The k-th step of a picking, seen from its head. -/
def Picks (want : Int) (l : List St) (k : Nat) (o : List (ByteArray × Int)) (lack : Int) : Prop := pk want l = (o ++ (pk lack (l.drop k)).1, (pk lack (l.drop k)).2)
theorem Picks.take {want : Int} {l : List St} {k : Nat} {o : List (ByteArray × Int)} {lack : Int} (h : Picks want l k o lack) {x : St} (hx : l[k]? = some x) (hl : 0 < lack) (hq : 0 < muchQ lack x) : Picks want l (k + 1) (o ++ [(x.nm, muchQ lack x)]) (lack - muchW lack x) := by
  unfold Picks at *
  rw [h, drop_cons hx]
  simp only [pk]
  rw [if_neg (by omega), if_pos hq]
  simp
theorem Picks.pass {want : Int} {l : List St} {k : Nat} {o : List (ByteArray × Int)} {lack : Int} (h : Picks want l k o lack) {x : St} (hx : l[k]? = some x) (hl : 0 < lack) (hq : ¬ 0 < muchQ lack x) : Picks want l (k + 1) o lack := by
  unfold Picks at *
  rw [h, drop_cons hx]
  simp only [pk]
  rw [if_neg (by omega), if_neg hq]
end Vl

theorem reads_owned2 {w : World} {base n : Nat} {v : Value} {xs : List Value} {e : TypeId} (h : w.ownsRow base e 2 v n xs) : ∃ A cap, v = .slice A n cap ∧ Reads w w.heap.size 2 A n xs := by
  have h0 := h
  rcases h0.2 with ⟨rfl, hx⟩ | ⟨g, cap, cur, rfl, _⟩
  · subst hx
    have hx1 : xs = [] := List.eq_nil_of_length_eq_zero (by have := h.1; omega)
    subst hx1
    exact ⟨none, 0, rfl, ⟨rfl, fun h => absurd h (by omega)⟩⟩
  · exact ⟨_, _, rfl, Reads.of_own h⟩
/-- What Pick tells: its picks in a new list, its error. -/
def PickOut (want : Int) (l : List Vl.St) (w : World) (e : Ending) (w' : World) : Prop :=
  ∃ (A : Option Addr) (n cap : Nat) (o : List (ByteArray × Int)) (x : Int), e = .returned (.tuple #[.slice A n cap, .int .i64 x]) ∧ n = o.length ∧ Reads w' w'.heap.size 2 A n (Vl.plCells o) ∧ Below w.heap.size w w' ∧
    ((want < 0 ∧ o = [] ∧ x = 1) ∨ (0 ≤ want ∧ 0 < (Vl.pk want l).2 ∧ o = [] ∧ x = 32) ∨ (0 ≤ want ∧ (Vl.pk want l).2 ≤ 0 ∧ o = (Vl.pk want l).1 ∧ x = 0))

set_option maxHeartbeats 4000000 in
set_option maxRecDepth 100000 in
theorem pick_any (want : Int) (l : List Vl.St) (A : Option Addr) (cp : Nat) (w : World) (hw1 : -9223372036854775808 ≤ want) (hw2 : want ≤ 9223372036854775807) (hr : StsAt w w.heap.size A l) (hl : l.length ≤ 1000000) (hf : ∀ x ∈ l, x.fits) :
    Calls Try.prog 8 #[.int .i64 want, .slice A l.length cp] w fun e w' => PickOut want l w e w' := by
  obtain ⟨i0, hi, hz0, hz1, hz2⟩ := info_parts info_pledge
  obtain ⟨n, hn⟩ : ∃ n, l.length = n := ⟨_, rfl⟩
  rw [hn] at hl ⊢
  have Hn := Lib.hid hn; clear hn
  have Hr := Lib.hid hr; clear hr
  have Hf := Lib.hid hf; clear hf
  by_cases hneg : want < 0
  · go_enter Try.func8, Try.ntmps8
    go_wp2
    go_ret2
    exact ⟨none, 0, 0, [], 1, rfl, rfl, Reads.none_, Below.refl _ _, .inl ⟨hneg, rfl, rfl⟩⟩
  · go_enter Try.func8, Try.ntmps8
    go_wp2
    go_loopw [6, 7, 17] (fun v L i wr => ∃ (k : Nat) (o : List (ByteArray × Int)) (lack : Int), k ≤ n ∧ i = .int .i64 k ∧ L = .int .i64 lack ∧ -9223372036854775808 ≤ lack ∧ lack ≤ 9223372036854775807 ∧ o.length ≤ k ∧ Hid (Vl.Picks want l k o lack) ∧ Hid (wr.ownsRow w.heap.size 36 2 v o.length (Vl.plCells o)) ∧ Hid (Below w.heap.size w wr)) (fun _ _ i _ => n - (intOf i).toNat)
    case atStart => exact ⟨0, [], want, Nat.zero_le _, rfl, rfl, hw1, hw2, Nat.le_refl _, by show _ = _; simp, World.ownsRow_nil w _ _ _, Below.refl _ _⟩
    case round =>
      obtain ⟨k, o, lack, hk, rfl, rfl, hl1, hl2, hok, HP, HO, HB⟩ := hrel
      have hsz := HB.out.size
      by_cases hlt : k < n
      · obtain ⟨ad, x, rfl, hab, hxk, hc0⟩ := (Hr.out.below HB.out).at_ (show k < l.length by rw [Hn.out]; exact hlt)
        have hxf := Hf.out x (List.mem_of_getElem? hxk)
        have HXK := Lib.hid hxk; clear hxk
        have HC := Lib.hid hc0; clear hc0
        have hmq := much_any lack x hxf hl1 hl2
        have hwr := Vl.muchW_range lack x
        obtain ⟨mq, hq9⟩ : ∃ z, Vl.muchQ lack x = z := ⟨_, rfl⟩
        obtain ⟨mw, hw9⟩ : ∃ z, Vl.muchW lack x = z := ⟨_, rfl⟩
        rw [hq9, hw9] at hmq
        rw [hw9] at hwr
        have htake := fun h => HP.out.take HXK.out (x := x) h
        have hpass := fun h => HP.out.pass HXK.out (x := x) h
        rw [hq9, hw9] at htake
        rw [hq9] at hpass
        obtain ⟨nm, cash, pl, u, least, p, c, close, q⟩ := x
        have HT := Lib.hid htake; have HPs := Lib.hid hpass
        clear htake hpass hq9 hw9 hxf HXK
        have HMQ := fun w => Lib.hid (hmq w)
        clear hmq
        by_cases hL : lack ≤ 0
        · have hfin : Vl.pk want l = (o, lack) := by
            have h := HP.out
            unfold Vl.Picks at h
            rw [Vl.pk_done hL] at h
            simpa using h
          obtain ⟨A', cap', rfl, hrd⟩ := reads_owned2 HO.out
          have HF := Lib.hid hfin; have HRd := Lib.hid hrd
          clear hfin hrd
          go_wp2_with (first
            | (refine wpList_load_cells rfl 27 _ rfl (ad.add (k * 9)) rfl [.string nm, .bool cash, .bool pl, .int .i64 u, .int .i64 least, .int .i64 p, .int .i64 c, .int .i64 close, .int .i64 q] _ HC.out Try.underlying27 rfl size_stock ?_)
            | (refine wpList_store_last rfl 27 _ _ rfl _ 27 _ _ rfl rfl (by exact size_stock) (by rfl) (by simp [Value.oneCell']) ?_)
            | (refine wpList_load_block rfl 27 _ rfl wr.heap.size rfl _ _ _ (heap_alloc_new wr _) Try.underlying27 rfl size_stock ?_))
          go_ret2
          refine ⟨A', o.length, cap', o, 0, rfl, rfl, ?_, HB.out.alloc hsz _, .inr (.inr ⟨by omega, by rw [HF.out]; exact hL, by rw [HF.out], rfl⟩)⟩
          exact (HRd.out.alloc (Nat.le_refl _) _).more (by simp)
        · by_cases hmq0 : 0 < mq
          · go_wp2_with (first
            | (refine wpList_load_cells rfl 27 _ rfl (ad.add (k * 9)) rfl [.string nm, .bool cash, .bool pl, .int .i64 u, .int .i64 least, .int .i64 p, .int .i64 c, .int .i64 close, .int .i64 q] _ HC.out Try.underlying27 rfl size_stock ?_)
            | (refine wpList_store_last rfl 27 _ _ rfl _ 27 _ _ rfl rfl (by exact size_stock) (by rfl) (by simp [Value.oneCell']) ?_)
            | (refine wpList_load_block rfl 27 _ rfl wr.heap.size rfl _ _ _ (heap_alloc_new wr _) Try.underlying27 rfl size_stock ?_))
            refine (HMQ _).out.mono ?_
            rintro e w2 ⟨rfl, hb2⟩
            obtain ⟨hkb, hbb⟩ := new_block hb2
            have c0 : w2.cell? ⟨wr.heap.size, 0, none⟩ = some (.string nm) := by rw [Lib.cell_of_heap hkb]; rfl
            have hbw2 := HB.out.trans (hbb.mono hsz)
            have hown2 := ownsRow_keep HO.out (fun k hk => hbb.block k (HO.out.lt k hk).2)
            have hsz2 := hbw2.size
            have HB2 := Lib.hid hbw2; clear hbw2
            clear hb2 hkb hbb
            go_wp2_with (at_builtin; refine wpList_append_any _ rfl _ _ 28 rfl w.heap.size 36 i0 (.agg #[.string ⟨#[]⟩, .int .i64 0]) 2 24 Try.underlying28 hi hz0 hz1 hz2 rfl (by decide) _ _ _ rfl (hown2.alloc _) (w2.heap.size + 1) (some ⟨w2.heap.size, 0, none⟩) 1 1 [.string nm, .int .i64 mq] rfl ?c1 ?c2 ?c3 ?c4 ?c5 ?_)
            case c1 => exact reads_new2 w2 _ _ _
            case c2 => simp [Value.oneCell']
            case c3 => unfold maxLen; omega
            case c4 => omega
            case c5 => simp; omega
            intro v3 w3 hown3 hgrow3 _
            have hb3 : Below w.heap.size w w3 := (HB2.out.alloc hsz2 _).grown hgrow3 (by simp; omega) (fun j hj => (hown2.lt j hj).1)
            have HO3 : Hid (w3.ownsRow w.heap.size 36 2 v3 (o ++ [(nm, mq)]).length (Vl.plCells (o ++ [(nm, mq)]))) := by
              show World.ownsRow _ _ _ _ _ _ _
              rw [Vl.plCells_snoc, List.length_append]
              exact hown3
            have HB3 := Lib.hid hb3
            clear hown3 hgrow3 hb3 hown2 c0
            have HT2 := Lib.hid (HT.out (by omega) hmq0)
            go_wp2
            go_roundw
            case rel => exact ⟨k + 1, o ++ [(nm, mq)], lack - mw, by omega, by go_num, rfl, by omega, by omega, by simp; omega, HT2.out, HO3.out, HB3.out⟩
            case measure => simp [intOf]; omega
          · go_wp2_with (first
            | (refine wpList_load_cells rfl 27 _ rfl (ad.add (k * 9)) rfl [.string nm, .bool cash, .bool pl, .int .i64 u, .int .i64 least, .int .i64 p, .int .i64 c, .int .i64 close, .int .i64 q] _ HC.out Try.underlying27 rfl size_stock ?_)
            | (refine wpList_store_last rfl 27 _ _ rfl _ 27 _ _ rfl rfl (by exact size_stock) (by rfl) (by simp [Value.oneCell']) ?_)
            | (refine wpList_load_block rfl 27 _ rfl wr.heap.size rfl _ _ _ (heap_alloc_new wr _) Try.underlying27 rfl size_stock ?_))
            refine (HMQ _).out.mono ?_
            rintro e w2 ⟨rfl, hb2⟩
            obtain ⟨hkb, hbb⟩ := new_block hb2
            have c0 : w2.cell? ⟨wr.heap.size, 0, none⟩ = some (.string nm) := by rw [Lib.cell_of_heap hkb]; rfl
            have hbw2 := HB.out.trans (hbb.mono hsz)
            have hown2 := ownsRow_keep HO.out (fun k hk => hbb.block k (HO.out.lt k hk).2)
            have hsz2 := hbw2.size
            have HB2 := Lib.hid hbw2; clear hbw2
            clear hb2 hkb hbb
            have HP2 := Lib.hid (HPs.out (by omega) (by omega))
            have HO2 := Lib.hid hown2
            clear hown2 c0
            go_wp2
            go_roundw
            case rel => exact ⟨k + 1, o, lack, by omega, by go_num, rfl, hl1, hl2, by omega, HP2.out, HO2.out, HB2.out⟩
            case measure => simp [intOf]; omega
      · have hfin : Vl.pk want l = (o, lack) := by
          have h := HP.out
          unfold Vl.Picks at h
          rw [List.drop_of_length_le (by have := Hn.out; omega)] at h
          simpa [Vl.pk] using h
        obtain ⟨A', cap', rfl, hrd⟩ := reads_owned2 HO.out
        have HF := Lib.hid hfin; have HRd := Lib.hid hrd
        clear hfin hrd
        by_cases hL : lack ≤ 0
        · go_wp2
          go_ret2
          exact ⟨A', o.length, cap', o, 0, rfl, rfl, HRd.out, HB.out, .inr (.inr ⟨by omega, by rw [HF.out]; exact hL, by rw [HF.out], rfl⟩)⟩
        · go_wp2
          go_ret2
          exact ⟨none, 0, 0, [], 32, rfl, rfl, ⟨rfl, fun h => absurd h (by omega)⟩, HB.out, .inr (.inl ⟨by omega, by rw [HF.out]; show 0 < lack; omega, rfl, rfl⟩)⟩
end Go.Proofs.Ytiekolbkmgdfoaa
