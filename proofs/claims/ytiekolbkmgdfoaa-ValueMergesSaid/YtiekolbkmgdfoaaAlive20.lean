/-
  Chapter 20's first call.
-/
import Derived.Test.YtiekolbkmgdfoaaVWorth
import Derived.Test.YtiekolbkmgdfoaaPlEq
namespace Go.Proofs.Ytiekolbkmgdfoaa
open Go.RowKit

namespace Vl
def sA : St := ⟨⟨#[65]⟩, false, true, 1, 0, 5, 0, 0, 3⟩
def sB : St := ⟨⟨#[66]⟩, false, true, 10, 0, 1, 5000, 0, 100⟩
theorem pk_ab : pk 20 [sA, sB] = ([(⟨#[65]⟩, 3), (⟨#[66]⟩, 10)], 0) := by kernel_rfl
theorem wth_ab : wth [sA, sB] = 65 := by kernel_rfl
end Vl

theorem add_none (b o j : Nat) : (⟨b, o, none⟩ : Addr).add j = ⟨b, o + j, none⟩ := by
  unfold Addr.add; split
  · rename_i h; subst h; rfl
  · simp
/-- Two stocks in a new block. -/
theorem sts_two (w : World) (x y : Vl.St) (t : TypeId) : StsAt (w.alloc (.cells (x.cells ++ y.cells).toArray t)) (w.heap.size + 1) (some ⟨w.heap.size, 0, none⟩) [x, y] := by
  refine fun _ => ⟨_, rfl, Nat.lt_succ_self _, fun k z hz j v hv => ?_⟩
  have h : (w.alloc (.cells (x.cells ++ y.cells).toArray t)).heap[w.heap.size]? = some (.cells (x.cells ++ y.cells).toArray t (0, 0)) := heap_alloc_new w _
  rw [add_none, add_none]
  simp only [World.cell?, h]
  have hx9 : x.cells.length = 9 := rfl
  match k, hz with
  | 0, hz =>
    obtain rfl : x = z := by simpa using hz
    have hj : j < x.cells.length := (List.getElem?_eq_some_iff.1 hv).1
    simp only [List.getElem?_toArray]
    rw [show 0 + 0 * 9 + j = j from by omega, List.getElem?_append_left hj]
    exact hv
  | 1, hz =>
    obtain rfl : y = z := by simpa using hz
    simp only [List.getElem?_toArray]
    rw [List.getElem?_append_right (by omega), hx9, show 0 + 1 * 9 + j - 9 = j from by omega]
    exact hv
  | k + 2, hz => simp at hz

theorem sts_two' (w w' : World) (G : Nat) (x y : Vl.St) (t : TypeId) (hw : w' = w.alloc (.cells (x.cells ++ y.cells).toArray t)) (hG : G = w.heap.size) : StsAt w' w'.heap.size (some ⟨G, 0, none⟩) [x, y] := by
  subst hw hG
  have h := sts_two w x y t
  simpa using h

set_option maxHeartbeats 4000000 in
set_option maxRecDepth 100000 in
theorem alive20_any (w : World) : Calls Try.prog 7 #[] w fun e w' => e = .returned (.bool true) ∧ Below w.heap.size w w' := by
  go_enter Try.func7, Try.ntmps7
  go_wp2_with fail
  refine (pick_any 20 [Vl.sA, Vl.sB] _ _ _ (by decide) (by decide) (sts_two' _ _ _ Vl.sA Vl.sB _ rfl (by simp)) (by decide) ?fit).mono ?_
  case fit => intro x hx; simp only [List.mem_cons, List.not_mem_nil, or_false] at hx; rcases hx with rfl | rfl <;> simp [Vl.St.fits, Vl.sA, Vl.sB]
  rintro e w1 ⟨A, n, cap, o, x, rfl, rfl, hrd, hb1, h⟩
  rw [Vl.pk_ab] at h
  obtain ⟨rfl, rfl⟩ : o = [(⟨#[65]⟩, 3), (⟨#[66]⟩, 10)] ∧ x = 0 := by
    rcases h with h | h | h
    · omega
    · exact absurd h.2.1 (by decide)
    · exact ⟨h.2.2.1, h.2.2.2⟩
  clear h
  have k1 := hb1.block w.heap.size (by simp; omega)
  have k2 := hb1.block (w.heap.size + 1) (by simp)
  rw [heap_alloc_old _ _ (by simp; omega), heap_alloc_old _ _ (by simp), heap_alloc_new] at k1
  rw [heap_alloc_old _ _ (by simp)] at k2
  have e2 := heap_alloc_new (w.alloc (.cells Vl.sA.cells.toArray 27)) (.cells Vl.sB.cells.toArray 27)
  rw [show (w.alloc (.cells Vl.sA.cells.toArray 27)).heap.size = w.heap.size + 1 from by simp] at e2
  have K1 := Lib.hid k1
  have K2 := Lib.hid (k2.trans e2)
  clear k1 k2 e2
  have HRd := Lib.hid hrd
  have HB1 := Lib.hid hb1
  clear hrd hb1
  go_wp2_with (first
    | (refine wpList_load_block rfl 27 _ rfl w.heap.size rfl _ _ _ K1.out Try.underlying27 rfl size_stock ?_)
    | (refine wpList_load_block rfl 27 _ rfl (w.heap.size + 1) rfl _ _ _ K2.out Try.underlying27 rfl size_stock ?_))
  refine (vworth_any [Vl.sA, Vl.sB] _ _ _ (sts_two' _ _ _ Vl.sA Vl.sB _ rfl (by simp)) (by decide) ?fit2 ?err ?small).mono ?_
  case fit2 => intro x hx; simp only [List.mem_cons, List.not_mem_nil, or_false] at hx; rcases hx with rfl | rfl <;> simp [Vl.St.fits, Vl.sA, Vl.sB]
  case err => intro x hx _; simp only [List.mem_cons, List.not_mem_nil, or_false] at hx; rcases hx with rfl | rfl <;> decide
  case small => rw [Vl.wth_ab]; decide
  rintro e w2 ⟨rfl, hb2⟩
  rw [Vl.wth_ab]
  obtain ⟨ad, rfl, hab, hc⟩ := HRd.out.2 (by decide)
  have hc2 : ∀ j u, (Vl.plCells [(⟨#[65]⟩, 3), (⟨#[66]⟩, 10)])[j]? = some u → w2.cell? (ad.add j) = some u := by
    intro j u hu
    have hlt : (ad.add j).block < w1.heap.size := by rw [block_of_add]; exact hab
    rw [hb2.cell (by simp; omega), World.cell?_alloc_lt _ _ _ hlt]
    exact hc j u hu
  have hcA : ∀ j u, [Value.string ⟨#[65]⟩, .int .i64 3][j]? = some u → w2.cell? (ad.add j) = some u := by
    intro j u hu
    refine hc2 j u ?_
    match j, hu with
    | 0, hu => exact hu
    | 1, hu => exact hu
    | j + 2, hu => simp at hu
  have hcB : ∀ j u, [Value.string ⟨#[66]⟩, .int .i64 10][j]? = some u → w2.cell? ((ad.add 2).add j) = some u := by
    intro j u hu
    rw [add_of_add]
    refine hc2 (2 + j) u ?_
    match j, hu with
    | 0, hu => exact hu
    | 1, hu => exact hu
    | j + 2, hu => simp at hu
  have HCA := Lib.hid hcA
  have HCB := Lib.hid hcB
  clear hcA hcB
  have HB2 : Hid (Below w.heap.size w w2) := by
    show Below _ _ _
    have h1 := HB1.out
    have h2 : Below w.heap.size w w1 := ((((Below.refl w.heap.size w).alloc (Nat.le_refl _) _).alloc (by simp) _).alloc (by simp; omega) _).trans (h1.mono (by simp; omega))
    exact (h2.alloc h2.size _).trans (hb2.mono (by have := h2.size; simp; omega))
  clear hc hc2 hb2 hab HB1 HRd K1 K2
  go_wp2_with (first
    | (refine wpList_load_cells rfl 36 _ rfl ad rfl _ _ HCA.out Try.underlying36 rfl size_pledge ?_)
    | (refine wpList_load_cells rfl 36 _ rfl (ad.add 2) rfl _ _ HCB.out Try.underlying36 rfl size_pledge ?_)
    | (refine wpList_eq_pledge rfl _ _ _ rfl _ _ _ _ rfl rfl ?_))
  go_ret
  exact ⟨rfl, HB2.out⟩
end Go.Proofs.Ytiekolbkmgdfoaa
