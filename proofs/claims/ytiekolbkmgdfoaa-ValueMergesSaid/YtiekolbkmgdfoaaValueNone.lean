/-
  ValueNone: what may not be pledged counts nothing and is not picked.
  Conditions: stocks in a list that the call reads.
-/
import Derived.Test.YtiekolbkmgdfoaaAlive20
import Derived.Test.YtiekolbkmgdfoaaEnoughPlain
namespace Go.Proofs.Ytiekolbkmgdfoaa
open Go.RowKit

namespace Vl
/-- A stock that may not be pledged. -/
def off (x : St) : St := { x with pl := false }
def stCells (l : List St) : List Value := l.flatMap St.cells
theorem stCells_snoc (l : List St) (x : St) : stCells (l ++ [x]) = stCells l ++ x.cells := by simp [stCells]
theorem stCells_len (l : List St) : (stCells l).length = l.length * 9 := by
  induction l with
  | nil => rfl
  | cons x l ih =>
    have h : (stCells (x :: l)).length = 9 + (stCells l).length := by simp [stCells, St.cells]; omega
    rw [h, ih, List.length_cons]
    omega
theorem stCells_at (l : List St) : ∀ (k : Nat) (x : St), l[k]? = some x → ∀ (j : Nat) (v : Value), x.cells[j]? = some v → (stCells l)[k * 9 + j]? = some v := by
  induction l with
  | nil => intro k x hk; simp at hk
  | cons y l ih =>
    intro k x hk j v hv
    have hy : y.cells.length = 9 := rfl
    have hx : x.cells.length = 9 := rfl
    have hj : j < 9 := (List.getElem?_eq_some_iff.1 hv).1
    have e : stCells (y :: l) = y.cells ++ stCells l := rfl
    rw [e]
    cases k with
    | zero =>
      obtain rfl : y = x := by simpa using hk
      rw [List.getElem?_append_left (by omega)]
      simpa using hv
    | succ k =>
      rw [List.getElem?_append_right (by omega), hy, show (k + 1) * 9 + j - 9 = k * 9 + j from by omega]
      exact ih k x (by simpa using hk) j v hv
theorem wth_no (l : List St) (h : ∀ x ∈ l, x.pl = false) : wth l = 0 := by
  unfold wth sumL
  suffices hs : ∀ a : Nat, (l.map w1).foldl (· + ·) a = a from hs 0
  induction l with
  | nil => intro a; rfl
  | cons x l ih =>
    intro a
    have hx : w1 x = 0 := by unfold w1; rw [if_neg (by rw [h x (by simp)]; decide)]
    rw [List.map_cons, List.foldl_cons, hx]
    exact ih (fun y hy => h y (by simp [hy])) a
end Vl
theorem info_stock : (Try.prog.info? 27).map (fun i => (i.zero, i.size, i.bytes)) = some (some (.agg #[.string ⟨#[]⟩, .bool false, .bool false, .int .i64 0, .int .i64 0, .int .i64 0, .int .i64 0, .int .i64 0, .int .i64 0]), 9, 72) := by kernel_rfl
/-- Stocks in a row of the call's own. -/
theorem sts_own {w : World} {base : Nat} {v : Value} {l : List Vl.St} (h : w.ownsRow base 27 9 v l.length (Vl.stCells l)) : ∃ A cap, v = .slice A l.length cap ∧ StsAt w w.heap.size A l := by
  rcases h.2 with ⟨rfl, hx⟩ | ⟨g, cap, cur, rfl, _⟩
  · have h0 : l.length = 0 := by
      have := h.1
      rw [hx] at this
      simp at this
      omega
    refine ⟨none, 0, by rw [h0], fun hn => absurd hn (by omega)⟩
  · refine ⟨_, _, rfl, fun hn => ?_⟩
    have hr := Reads.of_own h
    obtain ⟨ad, e, hb, hc⟩ := hr.2 hn
    refine ⟨ad, e, hb, fun k x hk j v hv => ?_⟩
    rw [add_of_add]
    exact hc _ v (Vl.stCells_at l k x hk j v hv)
theorem StsAt.more {w : World} {B B' : Nat} {A : Option Addr} {l : List Vl.St} (h : StsAt w B A l) (hB : B ≤ B') : StsAt w B' A l := fun hn => by
  obtain ⟨ad, e, hb, hc⟩ := h hn
  exact ⟨ad, e, by omega, hc⟩
/-- One stock in a new block. -/
theorem sts_one (w : World) (x : Vl.St) (t : TypeId) : Reads (w.alloc (.cells x.cells.toArray t)) (w.heap.size + 1) 9 (some ⟨w.heap.size, 0, none⟩) 1 x.cells := by
  refine ⟨rfl, fun _ => ⟨_, rfl, Nat.lt_succ_self _, fun j u hu => ?_⟩⟩
  have h : (w.alloc (.cells x.cells.toArray t)).heap[w.heap.size]? = some (.cells x.cells.toArray t (0, 0)) := heap_alloc_new w _
  have e : ((⟨w.heap.size, 0, none⟩ : Addr).add j) = ⟨w.heap.size, j, none⟩ := by
    unfold Addr.add; split
    · rename_i h; subst h; rfl
    · simp
  rw [e]
  simp only [World.cell?, h]
  simpa using hu

set_option maxHeartbeats 4000000 in
set_option maxRecDepth 100000 in
theorem none20_walk (want : Int) (l : List Vl.St) (A : Option Addr) (cp : Nat) (w : World) (hw1 : -9223372036854775808 ≤ want) (hw2 : want ≤ 9223372036854775807) (hr : StsAt w w.heap.size A l) (hl : l.length ≤ 9223372036854775807) (hf : ∀ x ∈ l, x.fits) :
    Calls Try.prog 5 #[.int .i64 want, .slice A l.length cp] w fun e w' => e = .returned (.bool true) ∧ Below w.heap.size w w' := by
  obtain ⟨i0, hi, hz0, hz1, hz2⟩ := info_parts info_stock
  obtain ⟨n, hn⟩ : ∃ n, l.length = n := ⟨_, rfl⟩
  rw [hn] at hl ⊢
  have Hn := Lib.hid hn; clear hn
  have Hr := Lib.hid hr; clear hr
  have Hf := Lib.hid hf; clear hf
  rcases (show 40 < n ∨ (n ≤ 40 ∧ want < 1) ∨ (n ≤ 40 ∧ 1 ≤ want) by omega) with h1 | ⟨h1, h2⟩ | ⟨h1, h2⟩
  · go_enter Try.func5, Try.ntmps5
    go_wp2_with fail
    refine (alive20_any _).mono ?_
    rintro e w1 ⟨rfl, hb⟩
    go_wp2
    go_ret
    exact ⟨rfl, hb⟩
  · go_enter Try.func5, Try.ntmps5
    go_wp2_with fail
    refine (alive20_any _).mono ?_
    rintro e w1 ⟨rfl, hb⟩
    go_wp2
    go_ret
    exact ⟨rfl, hb⟩
  · go_enter Try.func5, Try.ntmps5
    go_wp2
    go_loopw [5, 6] (fun v i wr => ∃ (k : Nat), k ≤ n ∧ i = .int .i64 k ∧ Hid (wr.ownsRow w.heap.size 27 9 v ((l.map Vl.off).take k).length (Vl.stCells ((l.map Vl.off).take k))) ∧ Hid (Below w.heap.size w wr)) (fun _ i _ => n - (intOf i).toNat)
    case atStart => exact ⟨0, Nat.zero_le _, rfl, World.ownsRow_nil w _ _ _, Below.refl _ _⟩
    case round =>
      obtain ⟨k, hk, rfl, HO, HB⟩ := hrel
      have hsz := HB.out.size
      by_cases hlt : k < n
      · obtain ⟨ad, x, rfl, hab, hxk, hc0⟩ := (Hr.out.below HB.out).at_ (show k < l.length by rw [Hn.out]; exact hlt)
        have hmk : (l.map Vl.off)[k]? = some (Vl.off x) := by rw [List.getElem?_map, hxk]; rfl
        have htk := take_snoc hmk
        have hlen : ((l.map Vl.off).take k).length = k := by rw [List.length_take, List.length_map, Hn.out]; omega
        have HT := Lib.hid htk; have HL := Lib.hid hlen
        have HC := Lib.hid hc0; clear hc0 htk hlen hmk
        obtain ⟨nm, cash, pl, u, least, p, c, close, q⟩ := x
        go_wp2_with (first
            | (refine wpList_load_cells rfl 27 _ rfl (ad.add (k * 9)) rfl [.string nm, .bool cash, .bool pl, .int .i64 u, .int .i64 least, .int .i64 p, .int .i64 c, .int .i64 close, .int .i64 q] _ HC.out Try.underlying27 rfl size_stock ?_)
            | (refine wpList_store_last rfl 27 _ _ rfl _ 27 _ _ rfl rfl (by exact size_stock) (by rfl) (by simp [Value.oneCell']) ?_)
            | (refine wpList_load_block rfl 27 _ rfl wr.heap.size rfl _ _ _ (heap_alloc_new wr _) Try.underlying27 rfl size_stock ?_)
            | (at_builtin; refine wpList_append_any _ rfl _ _ 22 rfl w.heap.size 27 i0 (.agg #[.string ⟨#[]⟩, .bool false, .bool false, .int .i64 0, .int .i64 0, .int .i64 0, .int .i64 0, .int .i64 0, .int .i64 0]) 9 72 Try.underlying22 hi hz0 hz1 hz2 rfl (by decide) _ _ _ rfl ((HO.out.alloc _).alloc _) (wr.heap.size + 1 + 1) (some ⟨wr.heap.size + 1, 0, none⟩) 1 1 (Vl.off ⟨nm, cash, pl, u, least, p, c, close, q⟩).cells rfl ?c1 ?c2 ?c3 ?c4 ?c5 ?_))
        case c1 =>
          have h := sts_one (wr.alloc (.cells (Vl.off ⟨nm, cash, pl, u, least, p, c, close, q⟩).cells.toArray 27)) (Vl.off ⟨nm, cash, pl, u, least, p, c, close, q⟩) 27
          have e : (wr.alloc (.cells (Vl.off ⟨nm, cash, pl, u, least, p, c, close, q⟩).cells.toArray 27)).heap.size = wr.heap.size + 1 := by simp
          rw [e] at h
          exact h
        case c2 => simp [Value.oneCell', Vl.St.cells, Vl.off]
        case c3 => rw [HL.out]; unfold maxLen; omega
        case c4 => rw [HL.out]; omega
        case c5 => simp; omega
        intro v3 w3 hown3 hgrow3 _
        have hb3 : Below w.heap.size w w3 := ((HB.out.alloc hsz _).alloc (by simp; omega) _).grown hgrow3 (by simp; omega) (fun j hj => (HO.out.lt j hj).1)
        have HO3 : Hid (w3.ownsRow w.heap.size 27 9 v3 ((l.map Vl.off).take (k + 1)).length (Vl.stCells ((l.map Vl.off).take (k + 1)))) := by
          show World.ownsRow _ _ _ _ _ _ _
          rw [HT.out, Vl.stCells_snoc, List.length_append, List.length_take, List.length_map]
          exact hown3
        have HB3 := Lib.hid hb3
        clear hown3 hgrow3 hb3 hxk
        go_wp2
        go_round
        case rel => exact ⟨k + 1, by omega, by go_num, HO3.out, HB3.out⟩
        case measure => simp [intOf]; omega
      · obtain rfl : k = n := by omega
        have hall : (l.map Vl.off).take k = l.map Vl.off := List.take_of_length_le (by rw [List.length_map, Hn.out]; exact Nat.le_refl _)
        have hO := HO.out
        rw [hall] at hO
        obtain ⟨A', cap', rfl, hrd⟩ := sts_own hO
        have hno : ∀ x ∈ l.map Vl.off, x.pl = false := by
          intro x hx
          obtain ⟨y, _, rfl⟩ := List.mem_map.1 hx
          rfl
        have hfo : ∀ x ∈ l.map Vl.off, x.fits := by
          intro x hx
          obtain ⟨y, hy, rfl⟩ := List.mem_map.1 hx
          exact Hf.out y hy
        have hlm : (l.map Vl.off).length = k := by rw [List.length_map, Hn.out]
        have hpk : Vl.pk want (l.map Vl.off) = ([], want) := Vl.pk_no _ hno want
        have hwt : Vl.wth (l.map Vl.off) = 0 := Vl.wth_no _ hno
        have HLM := Lib.hid hlm; have HPK := Lib.hid hpk; have HWT := Lib.hid hwt; have HNO := Lib.hid hno; have HFO := Lib.hid hfo; have HRD := Lib.hid hrd
        have hp := pick_any want (l.map Vl.off) A' cap' wr hw1 hw2 hrd (by omega) hfo
        have hv := fun (w1 : World) (hb : Below wr.heap.size wr w1) => vworth_any (l.map Vl.off) A' cap' w1 ((HRD.out.below hb).more hb.size) (by have := HLM.out; omega) HFO.out (fun x hx h => by rw [HNO.out x hx] at h; cases h) (by rw [HWT.out]; omega)
        rw [hwt] at hv
        rw [hlm] at hp hv ⊢
        have HP := Lib.hid hp; have HV := Lib.hid hv
        clear hall hO HO hrd hno hfo hlm hpk hwt hp hv
        go_wp2_with fail
        refine HP.out.mono ?_
        rintro e w1 ⟨A1, n1, cap1, o, x, rfl, rfl, hrd1, hb1, hout⟩
        rw [HPK.out] at hout
        obtain ⟨rfl, rfl⟩ : o = [] ∧ x = 32 := by
          rcases hout with h | h | h
          · exact absurd h.1 (by omega)
          · exact ⟨h.2.2.1, h.2.2.2⟩
          · exact absurd h.2.1 (by show ¬ want ≤ 0; omega)
        clear hout hrd1
        have HV1 := Lib.hid (HV.out w1 hb1)
        have HB1 := Lib.hid (HB.out.trans (hb1.mono hsz))
        have hsz1 := hb1.size
        clear hb1
        go_wp2_with fail
        refine HV1.out.mono ?_
        rintro e w2 ⟨rfl, hb2⟩
        have HB2 := Lib.hid (HB1.out.trans (hb2.mono (by omega)))
        have hsz2 := hb2.size
        clear hb2
        go_wp2_with fail
        refine (alive20_any _).mono ?_
        rintro e w3 ⟨rfl, hb3⟩
        have HB3 := Lib.hid (HB2.out.trans (hb3.mono (by omega)))
        clear hb3
        go_wp2
        go_ret
        exact ⟨rfl, HB3.out⟩
end Go.Proofs.Ytiekolbkmgdfoaa
