/-
  Package value's up and much as contracts: how much is picked of a stock, and what that is worth.
  Conditions: ints of 64 bits.
-/
import Derived.Test.YtiekolbkmgdfoaaNeed
namespace Go.Proofs.Ytiekolbkmgdfoaa
open Go.RowKit

namespace Vl
def upV (n u m : Int) : Int := if m < n then 0 else if n % u = 0 then n else if m - n < u - n % u then 0 else n + u - n % u
def upB (n u m : Int) : Bool := !decide (m < n) && (decide (n % u = 0) || !decide (m - n < u - n % u))
/-- A stock: its name, may it be cash, may it be pledged, its unit, its least, its price, its cut, its close, how much there is. -/
structure St where
  nm : ByteArray
  cash : Bool
  pl : Bool
  u : Int
  least : Int
  p : Int
  c : Int
  close : Int
  q : Int
def St.cells (x : St) : List Value := [.string x.nm, .bool x.cash, .bool x.pl, .int .i64 x.u, .int .i64 x.least, .int .i64 x.p, .int .i64 x.c, .int .i64 x.close, .int .i64 x.q]
def St.fits (x : St) : Prop := (-9223372036854775808 ≤ x.u ∧ x.u ≤ 9223372036854775807) ∧ (-9223372036854775808 ≤ x.p ∧ x.p ≤ 9223372036854775807) ∧ (-9223372036854775808 ≤ x.c ∧ x.c ≤ 9223372036854775807) ∧ (-9223372036854775808 ≤ x.q ∧ x.q ≤ 9223372036854775807)
/-- Nothing is picked of it. -/
def St.no (x : St) : Prop := x.pl = false ∨ x.u < 1 ∨ x.q < 1
instance (x : St) : Decidable x.no := by unfold St.no; infer_instance
/-- How much would be taken. -/
def tk (lack : Int) (x : St) : Int := if Nd.needE lack x.p x.c = 0 ∧ upB (Nd.needV lack x.p x.c) x.u x.q = true then upV (Nd.needV lack x.p x.c) x.u x.q else x.q - x.q % x.u
def muchQ (lack : Int) (x : St) : Int := if x.no then 0 else if Wo.wE (tk lack x) x.p x.c ≠ 0 ∨ Wo.wV (tk lack x) x.p x.c = 0 then 0 else tk lack x
def muchW (lack : Int) (x : St) : Int := if x.no then 0 else if Wo.wE (tk lack x) x.p x.c ≠ 0 ∨ Wo.wV (tk lack x) x.p x.c = 0 then 0 else Wo.wV (tk lack x) x.p x.c
end Vl

theorem ret2_i {a b : Int} {r : Value} (h : a = b) : Ending.returned (.tuple #[.int .i64 a, r]) = .returned (.tuple #[.int .i64 b, r]) := by rw [h]
set_option maxHeartbeats 1000000 in
theorem up_any (n u m : Int) (hn0 : 0 ≤ n) (hn1 : n ≤ 1152921504606846976) (hu0 : 1 ≤ u) (hu1 : u ≤ 9223372036854775807) (hm0 : 0 ≤ m) (hm1 : m ≤ 9223372036854775807) (w : World) :
    Calls Try.prog 23 #[.int .i64 n, .int .i64 u, .int .i64 m] w fun e w' => e = .returned (.tuple #[.int .i64 (Vl.upV n u m), .bool (Vl.upB n u m)]) ∧ w = w' := by
  have hmod : 0 ≤ n % u ∧ n % u < u := ⟨Int.emod_nonneg _ (by omega), Int.emod_lt_of_pos _ (by omega)⟩
  have huz : (u == 0) = false := by simp; omega
  by_cases h1 : m < n
  · have e1 : Vl.upV n u m = 0 := by unfold Vl.upV; rw [if_pos h1]
    have e2 : Vl.upB n u m = false := by unfold Vl.upB; simp [h1]
    rw [e1, e2]
    clear e1 e2
    go_enter Try.func23, Try.ntmps23
    go_wp2
    go_ret2
    exact ⟨rfl, rfl⟩
  · obtain ⟨r, hr⟩ : ∃ r, n % u = r := ⟨_, rfl⟩
    rw [hr] at hmod
    by_cases h2 : r = 0
    · have e1 : Vl.upV n u m = n := by unfold Vl.upV; rw [if_neg h1, hr, if_pos h2]
      have e2 : Vl.upB n u m = true := by unfold Vl.upB; rw [hr]; simp [h1, h2]
      rw [e1, e2]
      subst h2
      clear e1 e2
      go_enter Try.func23, Try.ntmps23
      go_wp2
      go_ret2
      exact ⟨rfl, rfl⟩
    · have hrb : (r == 0) = false := by simp [h2]
      by_cases h3 : m - n < u - r
      · have e1 : Vl.upV n u m = 0 := by unfold Vl.upV; rw [if_neg h1, hr, if_neg h2, if_pos h3]
        have e2 : Vl.upB n u m = false := by unfold Vl.upB; rw [hr]; simp [h1, h2, h3]
        rw [e1, e2]
        have H2 := Lib.hid h2
        clear e1 e2 h2
        go_enter Try.func23, Try.ntmps23
        go_wp2
        go_ret2
        exact ⟨rfl, rfl⟩
      · have e1 : Vl.upV n u m = n + u - r := by unfold Vl.upV; rw [if_neg h1, hr, if_neg h2, if_neg h3]
        have e2 : Vl.upB n u m = true := by unfold Vl.upB; rw [hr]; simp [h1, h3]
        rw [e1, e2]
        have H2 := Lib.hid h2
        clear e1 e2 h2
        have hw : wrap64 (wrap64 (n + u) - r) = n + u - r := by
          have b : n + u - r ≤ 9223372036854775807 := by omega
          unfold wrap64; omega
        have HW := Lib.hid hw; clear hw
        go_enter Try.func23, Try.ntmps23
        go_wp2
        go_ret2
        exact ⟨ret2_i HW.out, rfl⟩

namespace Nd
theorem needV_range (v p c : Int) : 0 ≤ needV v p c ∧ needV v p c ≤ 1152921504606846976 := by
  unfold needV
  split
  · rename_i h
    unfold needE at h
    split at h
    · cases h
    · rename_i hb
      unfold Wo.bad at hb
      split at h
      · cases h
      · have h1 := most_range (p := p) (by omega)
        have h2 := bs_range v p c 64 0 (most p + 1) (by omega)
        have h3 : found v p c = bs v p c 64 0 (most p + 1) := rfl
        rw [← h3] at h2
        omega
  · omega
end Nd
theorem upV_range {n u m : Int} (hn0 : 0 ≤ n) (hu : 1 ≤ u) (hm : 0 ≤ m) : 0 ≤ Vl.upV n u m ∧ Vl.upV n u m ≤ m := by
  have hmod : 0 ≤ n % u ∧ n % u < u := ⟨Int.emod_nonneg _ (by omega), Int.emod_lt_of_pos _ (by omega)⟩
  unfold Vl.upV
  split
  · omega
  · split
    · omega
    · split <;> omega

set_option maxHeartbeats 2000000 in
set_option maxRecDepth 100000 in
theorem much_no (lack : Int) (x : Vl.St) (h : x.no) (w : World) :
    Calls Try.prog 14 #[.int .i64 lack, .agg #[.string x.nm, .bool x.cash, .bool x.pl, .int .i64 x.u, .int .i64 x.least, .int .i64 x.p, .int .i64 x.c, .int .i64 x.close, .int .i64 x.q]] w fun e w' => e = .returned (.tuple #[.int .i64 0, .int .i64 0]) ∧ Below w.heap.size w w' := by
  unfold Vl.St.no at h
  obtain ⟨nm, cash, pl, u, least, p, c, close, q⟩ := x
  simp only at h ⊢
  rcases (show pl = false ∨ (pl = true ∧ u < 1) ∨ (pl = true ∧ 1 ≤ u ∧ q < 1) by cases pl <;> simp at h ⊢ <;> omega) with rfl | ⟨rfl, h1⟩ | ⟨rfl, h1, h2⟩
  all_goals
    clear h
    go_enter Try.func14, Try.ntmps14
    go_wp2
    go_ret2
    exact ⟨rfl, (Below.refl _ _).alloc (Nat.le_refl _) _⟩
end Go.Proofs.Ytiekolbkmgdfoaa
