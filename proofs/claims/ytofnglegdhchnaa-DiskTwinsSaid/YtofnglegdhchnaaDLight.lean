/-
  Chapter 5's Light as a contract: it answers.
  Conditions: steps in memory.
-/
import Derived.Test.YtofnglegdhchnaaDOps
import Derived.Test.YtofnglegdhchnaaDisk13
namespace Go.Proofs.Ytofnglegdhchnaa
open Go.RowKit

theorem room_ge (left : Int) (zs : List Int) (h0 : -1 ≤ left) (hz : ∀ z ∈ zs, 0 ≤ z) : -1 ≤ room left zs ∧ (room left zs ≤ left) := by
  induction zs generalizing left with
  | nil => exact ⟨h0, Int.le_refl _⟩
  | cons z r ih =>
    by_cases h : left < 0 ∨ left < z
    · rw [room_cons_no h]
      exact ⟨Int.le_refl _, h0⟩
    · have hz0 := hz z (by simp)
      rw [room_cons_yes (fun e => h (.inl e)) (fun e => h (.inr e))]
      have := ih (left - z) (by omega) (fun x hx => hz x (by simp [hx]))
      exact ⟨this.1, by omega⟩

/-- A truth is answered. -/
def IsBool (e : Ending) : Prop := ∃ b : Bool, e = .returned (.bool b)

set_option maxHeartbeats 2000000 in
set_option maxRecDepth 10000 in
theorem light5_any (l : List DOp) (A : Option Addr) (c : Nat) (w : World) (hr : OpsAt w w.heap.size A l) (hl : l.length ≤ 9223372036854775807) (hf : ∀ x ∈ l, x.Fits) :
    Calls Try.prog 22 #[.slice A l.length c] w fun e w' => IsBool e ∧ Below w.heap.size w w' := by
  obtain ⟨n, hn⟩ : ∃ n, l.length = n := ⟨_, rfl⟩
  rw [hn] at hl ⊢
  have Hn := Lib.hid hn; have HR := Lib.hid hr; have HF := Lib.hid hf
  clear hn hr hf
  go_enter Try.func22, Try.ntmps22
  go_wp2
  go_loopw [3, 4] (fun r i wr => ∃ (k : Nat) (x : Int), k ≤ n ∧ i = .int .i64 k ∧ r = .int .i64 x ∧ -1 ≤ x ∧ x ≤ 9000 ∧ Hid (Below w.heap.size w wr)) (fun _ i _ => n - (intOf i).toNat)
  case atStart => exact ⟨0, 9000, Nat.zero_le _, rfl, rfl, by omega, by omega, Below.refl _ _⟩
  case round =>
    obtain ⟨k, x, hk, rfl, rfl, hx0, hx1, HB⟩ := hrel
    by_cases hlt : k < n
    · by_cases h400 : (k : Int) < 400
      · by_cases hx : 0 ≤ x
        · obtain ⟨ad, y, rfl, hab, hyk, hc⟩ := HR.out.at_ (show k < l.length by rw [Hn.out]; exact hlt)
          have hc' : ∀ j v, y.cells[j]? = some v → wr.cell? ((ad.add (k * 5)).add j) = some v := fun j v hj => (HB.out.cell (by rw [block_of_add, block_of_add]; exact hab)).trans (hc j v hj)
          have hblk : (⟨(ad.add (k * 5)).block, (ad.add (k * 5)).off + 2, none⟩ : Addr).block < wr.heap.size := by show (ad.add (k * 5)).block < _; rw [block_of_add]; have := HB.out.size; omega
          have c2 : wr.cell? ⟨(ad.add (k * 5)).block, (ad.add (k * 5)).off + 2, none⟩ = some (.string y.a) := hc' 2 _ rfl
          have c3 : wr.cell? ⟨(ad.add (k * 5)).block, (ad.add (k * 5)).off + 3, none⟩ = some (.string y.b) := hc' 3 _ rfl
          have c4 : wr.cell? ⟨(ad.add (k * 5)).block, (ad.add (k * 5)).off + 4, none⟩ = some (.slice y.la y.ln y.lc) := hc' 4 _ rfl
          clear hc hc'
          have hlw := HB.out.size
          have hroom := room_any x [(y.a.size : Int), (y.b.size : Int), (y.ln : Int)] (some ⟨wr.heap.size, 0, none⟩) 3 (wr.heap.size + 1) ((wr.alloc (.cells #[.int .i64 (y.a.size : Int), .int .i64 (y.b.size : Int), .int .i64 (y.ln : Int)] 3)).drew) (reads_newV wr (ints [(y.a.size : Int), (y.b.size : Int), (y.ln : Int)]) 3 #[.int .i64 (y.a.size : Int), .int .i64 (y.b.size : Int), .int .i64 (y.ln : Int)] rfl rfl rfl (Nat.lt_succ_self _)) (by simp) hx0 (by omega) (by intro z hz; simp at hz; rcases hz with rfl | rfl | rfl <;> omega)
          go_wp2
          go_region_held3 (fun W => W.cell? ⟨(ad.add (k * 5)).block, (ad.add (k * 5)).off + 2, none⟩ = some (.string y.a) ∧ W.cell? ⟨(ad.add (k * 5)).block, (ad.add (k * 5)).off + 3, none⟩ = some (.string y.b) ∧ W.cell? ⟨(ad.add (k * 5)).block, (ad.add (k * 5)).off + 4, none⟩ = some (.slice y.la y.ln y.lc))
            (first | exact ⟨c2, c3, c4⟩ | exact ⟨(World.cell?_alloc_lt _ _ ⟨(ad.add (k * 5)).block, (ad.add (k * 5)).off + 2, none⟩ hblk).trans c2, (World.cell?_alloc_lt _ _ ⟨(ad.add (k * 5)).block, (ad.add (k * 5)).off + 3, none⟩ hblk).trans c3, (World.cell?_alloc_lt _ _ ⟨(ad.add (k * 5)).block, (ad.add (k * 5)).off + 4, none⟩ hblk).trans c4⟩)
            (first | (go_at_call 41; refine hroom.mono ?_; rintro e w2 ⟨rfl, rfl⟩))
          have hrg := room_ge x [(y.a.size : Int), (y.b.size : Int), (y.ln : Int)] hx0 (by intro z hz; simp at hz; rcases hz with rfl | rfl | rfl <;> omega)
          go_wp2
          go_roundw
          case rel => exact ⟨k + 1, _, hlt, by go_num, rfl, hrg.1, by omega, HB.out.drew.alloc (by have := HB.out.size; simpa using this) _⟩
          case measure => simp [intOf]; omega
        · by_cases h200 : n ≤ 200
          · go_wp2
            go_ret
            exact ⟨⟨_, rfl⟩, HB.out⟩
          · go_wp2
            go_ret
            exact ⟨⟨_, rfl⟩, HB.out⟩
      · by_cases hx : 0 ≤ x
        · go_wp2
          go_ret
          exact ⟨⟨_, rfl⟩, HB.out⟩
        · go_wp2
          go_ret
          exact ⟨⟨_, rfl⟩, HB.out⟩
    · by_cases hx : 0 ≤ x
      · by_cases h200 : n ≤ 200
        · go_wp2
          go_ret
          exact ⟨⟨_, rfl⟩, HB.out⟩
        · go_wp2
          go_ret
          exact ⟨⟨_, rfl⟩, HB.out⟩
      · by_cases h200 : n ≤ 200
        · go_wp2
          go_ret
          exact ⟨⟨_, rfl⟩, HB.out⟩
        · go_wp2
          go_ret
          exact ⟨⟨_, rfl⟩, HB.out⟩
end Go.Proofs.Ytofnglegdhchnaa
