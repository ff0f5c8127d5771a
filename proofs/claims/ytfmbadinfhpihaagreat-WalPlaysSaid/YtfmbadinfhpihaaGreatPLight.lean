/-
  Chapter 6's Light as a contract: where it answers yes the steps are few, and short together.
  Conditions: steps in memory.
-/
import Derived.Test.YtfmbadinfhpihaaGreatDOps
import Derived.Test.YtfmbadinfhpihaaGreatDisk12
import Derived.Test.YtfmbadinfhpihaaGreatPOps
import Derived.Test.YtfmbadinfhpihaaGreatBuilder
import Derived.Deep.RegionHeld3
set_option linter.unusedVariables false
set_option linter.unusedSimpArgs false
namespace Go.Proofs.YtfmbadinfhpihaaGreat
open Go.RowKit

theorem room_ge5 (left : Int) (zs : List Int) (h0 : -1 ≤ left) (hz : ∀ z ∈ zs, 0 ≤ z) : -1 ≤ room left zs ∧ room left zs ≤ left ∧ (0 ≤ room left zs → ∀ z ∈ zs, z ≤ left) := by
  induction zs generalizing left with
  | nil => exact ⟨h0, Int.le_refl _, fun _ z hz => by cases hz⟩
  | cons z r ih =>
    by_cases h : left < 0 ∨ left < z
    · rw [room_cons_no h]
      exact ⟨Int.le_refl _, h0, fun h => absurd h (by decide)⟩
    · have hz0 := hz z (by simp)
      rw [room_cons_yes (fun e => h (.inl e)) (fun e => h (.inr e))]
      have := ih (left - z) (by omega) (fun x hx => hz x (by simp [hx]))
      refine ⟨this.1, by omega, fun h0 u hu => ?_⟩
      rcases List.mem_cons.1 hu with rfl | hu
      · omega
      · have := this.2.2 h0 u hu; omega

/-- A truth is answered. -/
def LightSays5 (l : List DOp) (e : Ending) : Prop := ∃ b : Bool, e = .returned (.bool b) ∧ (b = true → ∀ y ∈ l, y.b.size ≤ 9000)

set_option maxHeartbeats 2000000 in
set_option maxRecDepth 10000 in
theorem light5_any (l : List DOp) (A : Option Addr) (c : Nat) (w : World) (hr : OpsAt w w.heap.size A l) (hl : l.length ≤ 9223372036854775807) (hf : ∀ x ∈ l, x.Fits) :
    Calls Tryz.prog 25 #[.slice A l.length c] w fun e w' => LightSays5 l e ∧ Below w.heap.size w w' := by
  obtain ⟨n, hn⟩ : ∃ n, l.length = n := ⟨_, rfl⟩
  rw [hn] at hl ⊢
  have Hn := Lib.hid hn; have HR := Lib.hid hr; have HF := Lib.hid hf
  clear hn hr hf
  go_enter Tryz.func25, Tryz.ntmps25
  go_wp2
  go_loopw [3, 4] (fun r i wr => ∃ (k : Nat) (x : Int), k ≤ n ∧ i = .int .i64 k ∧ r = .int .i64 x ∧ -1 ≤ x ∧ x ≤ 9000 ∧ Hid (0 ≤ x → ∀ y ∈ l.take k, y.b.size ≤ 9000) ∧ Hid (Below w.heap.size w wr)) (fun _ i _ => n - (intOf i).toNat)
  case atStart => exact ⟨0, 9000, Nat.zero_le _, rfl, rfl, by omega, by omega, fun _ y hy => by simp at hy, Below.refl _ _⟩
  case round =>
    obtain ⟨k, x, hk, rfl, rfl, hx0, hx1, HS, HB⟩ := hrel
    by_cases hlt : k < n
    · by_cases h400 : (k : Int) < 400
      · by_cases hx : 0 ≤ x
        · obtain ⟨ad, y, rfl, hab, hyk, hc⟩ := HR.out.at_ (show k < l.length by rw [Hn.out]; exact hlt)
          have hc' : ∀ j v, y.cells[j]? = some v → wr.cell? ((ad.add (k * 5)).add j) = some v := fun j v hj => (HB.out.cell (by rw [block_of_add, block_of_add]; exact hab)).trans (hc j v hj)
          have hblk : (⟨(ad.add (k * 5)).block, (ad.add (k * 5)).off + 2, none⟩ : Addr).block < wr.heap.size := by show (ad.add (k * 5)).block < _; rw [block_of_add]; have := HB.out.size; omega
          have c2 : wr.cell? ⟨(ad.add (k * 5)).block, (ad.add (k * 5)).off + 2, none⟩ = some (.string y.a) := hc' 2 _ rfl
          have c3 : wr.cell? ⟨(ad.add (k * 5)).block, (ad.add (k * 5)).off + 3, none⟩ = some (.string y.b) := hc' 3 _ rfl
          have c4 : wr.cell? ⟨(ad.add (k * 5)).block, (ad.add (k * 5)).off + 4, none⟩ = some (.slice y.la y.ln y.lc) := hc' 4 _ rfl
          have HYK := Lib.hid hyk
          clear hc hc' hyk
          have hlw := HB.out.size
          have hroom := room_any x [(y.a.size : Int), (y.b.size : Int), (y.ln : Int)] (some ⟨wr.heap.size, 0, none⟩) 3 (wr.heap.size + 1) ((wr.alloc (.cells #[.int .i64 (y.a.size : Int), .int .i64 (y.b.size : Int), .int .i64 (y.ln : Int)] 3)).drew) (reads_newV wr (ints [(y.a.size : Int), (y.b.size : Int), (y.ln : Int)]) 3 #[.int .i64 (y.a.size : Int), .int .i64 (y.b.size : Int), .int .i64 (y.ln : Int)] rfl rfl rfl (Nat.lt_succ_self _)) (by simp) hx0 (by omega) (by intro z hz; simp at hz; rcases hz with rfl | rfl | rfl <;> omega)
          go_wp2
          go_region_held3 (fun W => W.cell? ⟨(ad.add (k * 5)).block, (ad.add (k * 5)).off + 2, none⟩ = some (.string y.a) ∧ W.cell? ⟨(ad.add (k * 5)).block, (ad.add (k * 5)).off + 3, none⟩ = some (.string y.b) ∧ W.cell? ⟨(ad.add (k * 5)).block, (ad.add (k * 5)).off + 4, none⟩ = some (.slice y.la y.ln y.lc))
            (first | exact ⟨c2, c3, c4⟩ | exact ⟨(World.cell?_alloc_lt _ _ ⟨(ad.add (k * 5)).block, (ad.add (k * 5)).off + 2, none⟩ hblk).trans c2, (World.cell?_alloc_lt _ _ ⟨(ad.add (k * 5)).block, (ad.add (k * 5)).off + 3, none⟩ hblk).trans c3, (World.cell?_alloc_lt _ _ ⟨(ad.add (k * 5)).block, (ad.add (k * 5)).off + 4, none⟩ hblk).trans c4⟩)
            (first | (go_at_call 51; refine hroom.mono ?_; rintro e w2 ⟨rfl, rfl⟩))
          have hrg := room_ge5 x [(y.a.size : Int), (y.b.size : Int), (y.ln : Int)] hx0 (by intro z hz; simp at hz; rcases hz with rfl | rfl | rfl <;> omega)
          have HS2 : Hid (0 ≤ room x [(y.a.size : Int), (y.b.size : Int), (y.ln : Int)] → ∀ z ∈ l.take (k + 1), z.b.size ≤ 9000) := fun h0 z hz => by
            rw [take_snoc HYK.out] at hz
            rcases List.mem_append.1 hz with h1 | h1
            · exact HS.out hx z h1
            · obtain rfl := List.mem_singleton.1 h1
              have := hrg.2.2 h0 (z.b.size : Int) (by simp)
              omega
          have hrg2 := hrg.2.1
          have hrg1 := hrg.1
          clear hrg
          go_wp2
          go_roundw
          case rel => exact ⟨k + 1, _, hlt, by go_num, rfl, hrg1, by omega, HS2.out, HB.out.drew.alloc (by have := HB.out.size; simpa using this) _⟩
          case measure => simp [intOf]; omega
        · by_cases h200 : n ≤ 200
          · go_wp2
            go_ret
            exact ⟨⟨false, by first | rfl | (congr 1), fun h => by cases h⟩, HB.out⟩
          · go_wp2
            go_ret
            exact ⟨⟨false, by first | rfl | (congr 1), fun h => by cases h⟩, HB.out⟩
      · have h200 : ¬ n ≤ 200 := by omega
        by_cases hx : 0 ≤ x
        · go_wp2
          go_ret
          exact ⟨⟨false, by first | rfl | (congr 1), fun h => by cases h⟩, HB.out⟩
        · go_wp2
          go_ret
          exact ⟨⟨false, by first | rfl | (congr 1), fun h => by cases h⟩, HB.out⟩
    · obtain rfl : k = n := by omega
      by_cases h200 : k ≤ 200
      · by_cases hx : 0 ≤ x
        · have HALL : Hid (∀ y ∈ l, y.b.size ≤ 9000) := by
            have h1 := HS.out hx
            rw [List.take_of_length_le (by have := Hn.out; omega)] at h1
            exact h1
          go_wp2
          go_ret
          exact ⟨⟨true, by first | rfl | (congr 1), fun _ => HALL.out⟩, HB.out⟩
        · go_wp2
          go_ret
          exact ⟨⟨false, by first | rfl | (congr 1), fun h => by cases h⟩, HB.out⟩
      · by_cases hx : 0 ≤ x
        · go_wp2
          go_ret
          exact ⟨⟨false, by first | rfl | (congr 1), fun h => by cases h⟩, HB.out⟩
        · go_wp2
          go_ret
          exact ⟨⟨false, by first | rfl | (congr 1), fun h => by cases h⟩, HB.out⟩
end Go.Proofs.YtfmbadinfhpihaaGreat
namespace Go.Proofs.YtfmbadinfhpihaaGreat
open Go.RowKit

theorem room_exact (left : Int) (zs : List Int) (h0 : -1 ≤ left) (hz : ∀ z ∈ zs, 0 ≤ z) : -1 ≤ room left zs ∧ room left zs ≤ left ∧ (0 ≤ room left zs → room left zs + zs.sum = left) := by
  induction zs generalizing left with
  | nil => exact ⟨h0, Int.le_refl _, fun _ => by show left + (0 : Int) = left; omega⟩
  | cons z r ih =>
    by_cases h : left < 0 ∨ left < z
    · rw [room_cons_no h]
      exact ⟨Int.le_refl _, h0, fun h => absurd h (by decide)⟩
    · have hz0 := hz z (by simp)
      rw [room_cons_yes (fun e => h (.inl e)) (fun e => h (.inr e))]
      have := ih (left - z) (by omega) (fun x hx => hz x (by simp [hx]))
      refine ⟨this.1, by omega, fun hh => ?_⟩
      have h2 := this.2.2 hh
      rw [List.sum_cons]
      omega
/-- How much room a step takes. -/
def POp.wt (x : POp) : Nat := x.nn.length + x.tt.length + total x.tt
def wts (l : List POp) : Nat := (l.map POp.wt).sum
theorem wts_snoc {l : List POp} {k : Nat} {x : POp} (h : l[k]? = some x) : wts (l.take (k + 1)) = wts (l.take k) + x.wt := by unfold wts; rw [take_snoc h]; simp
/-- A truth is answered; yes: few steps, and short ones. -/
def LightSays6 (l : List POp) (e : Ending) : Prop := ∃ b : Bool, e = .returned (.bool b) ∧ (b = true → l.length ≤ 60 ∧ wts l ≤ 9000)

set_option maxHeartbeats 4000000 in
set_option maxRecDepth 10000 in
theorem light6_any (l : List POp) (A : Option Addr) (c : Nat) (w : World) (hr : POpsAt w w.heap.size A l) (hl : l.length ≤ 9223372036854775807) (hf : ∀ x ∈ l, x.Fits) :
    Calls Tryz.prog 26 #[.slice A l.length c] w fun e w' => LightSays6 l e ∧ Below w.heap.size w w' := by
  obtain ⟨n, hn⟩ : ∃ n, l.length = n := ⟨_, rfl⟩
  rw [hn] at hl ⊢
  have Hn := Lib.hid hn; have HR := Lib.hid hr; have HF := Lib.hid hf
  clear hn hr hf
  go_enter Tryz.func26, Tryz.ntmps26
  go_wp2
  go_loopw [3, 4] (fun r i wr => ∃ (k : Nat) (x : Int), k ≤ n ∧ i = .int .i64 k ∧ r = .int .i64 x ∧ -1 ≤ x ∧ x ≤ 9000 ∧ Hid (0 ≤ x → x + (wts (l.take k) : Nat) = 9000) ∧ Hid (Below w.heap.size w wr)) (fun _ i _ => n - (intOf i).toNat)
  case atStart => exact ⟨0, 9000, Nat.zero_le _, rfl, rfl, by omega, by omega, fun _ => rfl, Below.refl _ _⟩
  case round =>
    obtain ⟨k, x, hk, rfl, rfl, hx0, hx1, HS, HB⟩ := hrel
    by_cases hlt : k < n
    · by_cases h200 : (k : Int) < 200
      · by_cases hx : 0 ≤ x
        · obtain ⟨ad, y, rfl, hab, hyk, hc, hin⟩ := HR.out.at_ (show k < l.length by rw [Hn.out]; exact hlt)
          have hfy := HF.out y (List.mem_of_getElem? hyk)
          have hc' : ∀ j v, y.cells[j]? = some v → wr.cell? ((ad.add (k * 4)).add j) = some v := fun j v hj => (HB.out.cell (by rw [block_of_add, block_of_add]; exact hab)).trans (hc j v hj)
          have hblk : (⟨(ad.add (k * 4)).block, (ad.add (k * 4)).off + 1, none⟩ : Addr).block < wr.heap.size := by show (ad.add (k * 4)).block < _; rw [block_of_add]; have := HB.out.size; omega
          have c1 : wr.cell? ⟨(ad.add (k * 4)).block, (ad.add (k * 4)).off + 3, none⟩ = some (.slice y.na y.nn.length y.nc) := hc' 3 _ rfl
          have c2 : wr.cell? ⟨(ad.add (k * 4)).block, (ad.add (k * 4)).off + 2, none⟩ = some (.slice y.ta y.tt.length y.tc) := hc' 2 _ rfl
          have hc02 : w.cell? ⟨(ad.add (k * 4)).block, (ad.add (k * 4)).off + 2, none⟩ = some (.slice y.ta y.tt.length y.tc) := hc 2 _ rfl
          have HY := Lib.hid hyk
          have HIN := Lib.hid hin
          have HFY := Lib.hid hfy
          clear hc hc' hyk hin hfy
          have hlw := HB.out.size
          have hln := HFY.out.ln; have hlt' := HFY.out.lt
          obtain ⟨n1, hn1⟩ : ∃ n1, y.nn.length = n1 := ⟨_, rfl⟩
          obtain ⟨n2, hn2⟩ : ∃ n2, y.tt.length = n2 := ⟨_, rfl⟩
          rw [hn1] at c1 hln
          rw [hn2] at c2 hlt' hc02
          have HC02 := Lib.hid hc02
          clear hc02
          have HN1 := Lib.hid hn1; have HN2 := Lib.hid hn2
          clear hn1 hn2
          have hroom := room_any x [(n1 : Int), (n2 : Int)] (some ⟨wr.heap.size, 0, none⟩) 2 (wr.heap.size + 1) ((wr.alloc (.cells #[.int .i64 (n1 : Int), .int .i64 (n2 : Int)] 3)).drew) (reads_newV wr (ints [(n1 : Int), (n2 : Int)]) 3 #[.int .i64 (n1 : Int), .int .i64 (n2 : Int)] rfl rfl rfl (Nat.lt_succ_self _)) (by simp) hx0 (by omega) (by intro z hz; simp at hz; rcases hz with rfl | rfl <;> omega)
          have hrg := room_exact x [(n1 : Int), (n2 : Int)] hx0 (by intro z hz; simp at hz; rcases hz with rfl | rfl <;> omega)
          obtain ⟨x2, hx2⟩ : ∃ x2, room x [(n1 : Int), (n2 : Int)] = x2 := ⟨_, rfl⟩
          rw [hx2] at hroom hrg
          obtain ⟨hr1, hr2, hr3⟩ := hrg
          have HR3 : Hid (0 ≤ x2 → x2 + ((n1 : Int) + (n2 : Int)) = x) := fun h0 => by
            have a1 := hr3 h0
            have a2 : ([(n1 : Int), (n2 : Int)] : List Int).sum = (n1 : Int) + ((n2 : Int) + 0) := rfl
            omega
          clear hx2 hr3
          go_wp2
          go_region_held3 (fun W => W.cell? ⟨(ad.add (k * 4)).block, (ad.add (k * 4)).off + 3, none⟩ = some (.slice y.na n1 y.nc) ∧ W.cell? ⟨(ad.add (k * 4)).block, (ad.add (k * 4)).off + 2, none⟩ = some (.slice y.ta n2 y.tc))
            (first | exact ⟨c1, c2⟩ | exact ⟨(World.cell?_alloc_lt _ _ ⟨(ad.add (k * 4)).block, (ad.add (k * 4)).off + 3, none⟩ hblk).trans c1, (World.cell?_alloc_lt _ _ ⟨(ad.add (k * 4)).block, (ad.add (k * 4)).off + 2, none⟩ hblk).trans c2⟩)
            (first | (go_at_call 51; refine hroom.mono ?_; rintro e w2 ⟨rfl, rfl⟩))
          obtain ⟨W2, HW2⟩ : ∃ W2, Hid ((wr.alloc (.cells #[.int .i64 (n1 : Int), .int .i64 (n2 : Int)] 3)).drew = W2) := ⟨_, rfl⟩
          rw [HW2.out]
          have HB2 : Hid (Below w.heap.size w W2) := by show Below _ _ _; rw [← HW2.out]; exact (HB.out.alloc hlw _).drew
          have HC2 : Hid (∀ V, Below w.heap.size w V → V.cell? ⟨(ad.add (k * 4)).block, (ad.add (k * 4)).off + 2, none⟩ = some (.slice y.ta n2 y.tc)) := fun V hV => (hV.cell (p := ⟨(ad.add (k * 4)).block, (ad.add (k * 4)).off + 2, none⟩) (show (ad.add (k * 4)).block < w.heap.size by rw [block_of_add]; exact hab)).trans HC02.out
          clear hroom c1 c2 HW2
          go_wp2
          go_loopw [3, 5] (fun r j ws => ∃ (i : Nat) (z : Int), i ≤ n2 ∧ j = .int .i64 i ∧ r = .int .i64 z ∧ -1 ≤ z ∧ z ≤ x2 ∧ Hid (0 ≤ z → z + (total (y.tt.take i) : Nat) = x2) ∧ Hid (Below w.heap.size w ws)) (fun _ j _ => n2 - (intOf j).toNat)
          case atStart => exact ⟨0, x2, Nat.zero_le _, rfl, rfl, hr1, Int.le_refl _, (fun _ => by show x2 + ((0 : Nat) : Int) = x2; omega), HB2.out⟩
          case round =>
            obtain ⟨i, z, hi, rfl, rfl, hz0, hz1, HT, HBs⟩ := hrel
            have hlws := HBs.out.size
            have d2 : wr.cell? ⟨(ad.add (k * 4)).block, (ad.add (k * 4)).off + 2, none⟩ = some (.slice y.ta n2 y.tc) := HC2.out wr HBs.out
            by_cases hil : i < n2
            · by_cases hz : 0 ≤ z
              · obtain ⟨tad, t, hta, htab, htk, htc⟩ := str_at (HIN.out.rt.below HBs.out) (show i < y.tt.length by rw [HN2.out]; exact hil)
                rw [hta] at d2
                clear hta
                have htn := HFY.out.vt t (List.mem_of_getElem? htk)
                have HTK := Lib.hid htk
                have hroom2 := room_any z [(t.size : Int)] (some ⟨wr.heap.size, 0, none⟩) 1 (wr.heap.size + 1) (wr.alloc (.cells #[.int .i64 (t.size : Int)] 3)) (reads_newV wr (ints [(t.size : Int)]) 3 #[.int .i64 (t.size : Int)] rfl rfl rfl (Nat.lt_succ_self _)) (by simp) hz0 (by omega) (by intro u hu; simp at hu; subst hu; omega)
                have hrg2 := room_exact z [(t.size : Int)] hz0 (by intro u hu; simp at hu; subst hu; omega)
                obtain ⟨z2, hz2⟩ : ∃ z2, room z [(t.size : Int)] = z2 := ⟨_, rfl⟩
                rw [hz2] at hroom2 hrg2
                obtain ⟨ha1, ha2, ha3⟩ := hrg2
                have HA3 : Hid (0 ≤ z2 → z2 + (t.size : Int) = z) := fun h0 => by have := ha3 h0; have e : ([(t.size : Int)] : List Int).sum = (t.size : Int) + 0 := rfl; omega
                clear hz2 ha3 htk
                go_wp2_with fail
                refine hroom2.mono ?_
                rintro e w4 ⟨rfl, rfl⟩
                have HB4 := Lib.hid (HBs.out.alloc hlws (.cells #[.int .i64 (t.size : Int)] 3))
                clear hroom2 htc
                go_wp2
                go_roundw
                case rel =>
                  refine ⟨i + 1, z2, hil, by go_num, rfl, ha1, by omega, fun h0 => ?_, HB4.out⟩
                  have h1 := HA3.out h0
                  have h2 := HT.out hz
                  rw [total_take_succ HTK.out]
                  omega
                case measure => simp [intOf]; omega
              · go_wp2
                go_roundw
                case rel =>
                  refine ⟨k + 1, z, hlt, by go_num, rfl, hz0, by omega, fun h0 => absurd h0 hz, HBs.out⟩
                case measure => simp [intOf]; omega
            · obtain rfl : i = n2 := by omega
              have hst : Hid (0 ≤ z → z + (wts (l.take (k + 1)) : Nat) = 9000) := by
                show _ → _
                intro h0
                have h1 := HR3.out (by omega)
                have h2 := HT.out h0
                have h3 := HS.out hx
                rw [List.take_of_length_le (by have := HN2.out; omega)] at h2
                rw [wts_snoc HY.out]
                unfold POp.wt
                rw [HN1.out, HN2.out]
                omega
              by_cases hz : 0 ≤ z
              · go_wp2
                go_roundw
                case rel => exact ⟨k + 1, z, hlt, by go_num, rfl, hz0, by omega, hst.out, HBs.out⟩
                case measure => simp [intOf]; omega
              · go_wp2
                go_roundw
                case rel => exact ⟨k + 1, z, hlt, by go_num, rfl, hz0, by omega, hst.out, HBs.out⟩
                case measure => simp [intOf]; omega
        · by_cases h100 : n ≤ 60
          · go_wp2
            go_ret
            exact ⟨⟨false, by first | rfl | (congr 1), fun h => by cases h⟩, HB.out⟩
          · go_wp2
            go_ret
            exact ⟨⟨false, by first | rfl | (congr 1), fun h => by cases h⟩, HB.out⟩
      · have h100 : ¬ n ≤ 60 := by omega
        by_cases hx : 0 ≤ x
        · go_wp2
          go_ret
          exact ⟨⟨false, by first | rfl | (congr 1), fun h => by cases h⟩, HB.out⟩
        · go_wp2
          go_ret
          exact ⟨⟨false, by first | rfl | (congr 1), fun h => by cases h⟩, HB.out⟩
    · obtain rfl : k = n := by omega
      by_cases h100 : k ≤ 60
      · by_cases hx : 0 ≤ x
        · have hall := HS.out hx
          rw [List.take_of_length_le (by have := Hn.out; omega)] at hall
          have HALL : Hid (wts l ≤ 9000) := by show _ ≤ _; omega
          clear hall
          go_wp2
          go_ret
          exact ⟨⟨true, by first | rfl | (congr 1), fun _ => ⟨by rw [Hn.out]; exact h100, HALL.out⟩⟩, HB.out⟩
        · go_wp2
          go_ret
          exact ⟨⟨false, by first | rfl | (congr 1), fun h => by cases h⟩, HB.out⟩
      · by_cases hx : 0 ≤ x
        · go_wp2
          go_ret
          exact ⟨⟨false, by first | rfl | (congr 1), fun h => by cases h⟩, HB.out⟩
        · go_wp2
          go_ret
          exact ⟨⟨false, by first | rfl | (congr 1), fun h => by cases h⟩, HB.out⟩
end Go.Proofs.YtfmbadinfhpihaaGreat
