/-
  Package ref as contracts: small ones: in, right, canBe, the closures of AddParties, AddAccounts, AddAssets.
  Conditions: ints.
-/
import Derived.Test.YtkcecijepbceiaaRef0
namespace Go.Proofs.Ytkcecijepbceiaa
open Go.RowKit Go.Maps

def inB (n a b : Int) : Bool := decide (a ≤ n ∧ n ≤ b)
theorem inB_yes {n a b : Int} : inB n a b = true ↔ a ≤ n ∧ n ≤ b := by simp [inB]
theorem inB_no {n a b : Int} : inB n a b = false ↔ ¬ (a ≤ n ∧ n ≤ b) := by simp [inB]
theorem in_any (n a b : Int) (w : World) : Calls Try.prog 95 #[.int .i64 n, .int .i64 a, .int .i64 b] w fun e w' => e = .returned (.bool (inB n a b)) ∧ w = w' := by
  by_cases h0 : a ≤ n
  · by_cases h1 : n ≤ b
    · rw [inB_yes.2 ⟨h0, h1⟩]
      go_enter Try.func95, Try.ntmps95
      go_wp2
      go_ret
      exact ⟨ret_bool (by first | rfl | simp | simp [h1]), rfl⟩
    · rw [inB_no.2 (by omega)]
      have hd : decide (n ≤ b) = false := decide_eq_false h1
      go_enter Try.func95, Try.ntmps95
      go_wp2
      go_ret
      exact ⟨ret_bool (by first | rfl | simp), rfl⟩
  · rw [inB_no.2 (by omega)]
    have hd : decide (a ≤ n) = false := decide_eq_false h0
    go_enter Try.func95, Try.ntmps95
    go_wp2
    go_ret
    exact ⟨ret_bool (by first | rfl | simp), rfl⟩
def rightI (b : Bool) : Int := if b then 0 else 1
theorem right_any (b : Bool) (w : World) : Calls Try.prog 94 #[.bool b] w fun e w' => e = .returned (.int .i64 (rightI b)) ∧ w = w' := by
  cases b
  · go_enter Try.func94, Try.ntmps94
    go_wp2
    go_ret
    exact ⟨rfl, rfl⟩
  · go_enter Try.func94, Try.ntmps94
    go_wp2
    go_ret
    exact ⟨rfl, rfl⟩
def canS (x : Asset) : Bool := inB x.unit 1 1099511627776 && (inB x.least 1 1099511627776 && (decide (x.least % x.unit = 0) && (inB x.price 0 1099511627776 && (inB x.cut 0 10000 && (inB x.close 0 1099511627776 && (!(x.cash && x.pledge) && (decide (x.close = 0) || x.cash)))))))

set_option maxHeartbeats 4000000 in
set_option maxRecDepth 10000 in
theorem can_any (x : Asset) (w : World) : Calls Try.prog 104 #[Kd.val x] w fun e w' => e = .returned (.bool (canS x)) ∧ Below w.heap.size w w' := by
  obtain ⟨name, cash, pledge, unit, least, price, cut, close⟩ := x
  unfold canS
  show Calls Try.prog 104 #[.agg #[.string name, .bool cash, .bool pledge, .int .i64 unit, .int .i64 least, .int .i64 price, .int .i64 cut, .int .i64 close]] w _
  go_enter Try.func104, Try.ntmps104
  go_wp2_with fail
  refine (in_any unit 1 1099511627776 _).mono ?_
  rintro e w1 ⟨rfl, rfl⟩
  cases h1 : inB unit 1 1099511627776
  · go_wp2
    go_ret
    exact ⟨ret_bool (by first | rfl | (rw [h1]; rfl) | (rw [h1]; simp)), (Below.refl _ _).alloc (Nat.le_refl _) _⟩
  · go_wp2_with fail
    refine (in_any least 1 1099511627776 _).mono ?_
    rintro e w1 ⟨rfl, rfl⟩
    cases h2 : inB least 1 1099511627776
    · go_wp2
      go_ret
      exact ⟨ret_bool (by first | rfl | (rw [h1, h2]; rfl) | (rw [h1, h2]; simp)), (Below.refl _ _).alloc (Nat.le_refl _) _⟩
    · have hu := inB_yes.1 h1
      have hl := inB_yes.1 h2
      by_cases h3 : least % unit = 0
      · have h3b : (least % unit == 0) = true := by simp [h3]
        go_wp2_with fail
        refine (in_any price 0 1099511627776 _).mono ?_
        rintro e w1 ⟨rfl, rfl⟩
        cases h4 : inB price 0 1099511627776
        · go_wp2
          go_ret
          exact ⟨ret_bool (by first | rfl | (rw [h1, h2, decide_eq_true h3, h4]; rfl) | (rw [h1, h2, decide_eq_true h3, h4]; simp)), (Below.refl _ _).alloc (Nat.le_refl _) _⟩
        · go_wp2_with fail
          refine (in_any cut 0 10000 _).mono ?_
          rintro e w1 ⟨rfl, rfl⟩
          cases h5 : inB cut 0 10000
          · go_wp2
            go_ret
            exact ⟨ret_bool (by first | rfl | (rw [h1, h2, decide_eq_true h3, h4, h5]; rfl) | (rw [h1, h2, decide_eq_true h3, h4, h5]; simp)), (Below.refl _ _).alloc (Nat.le_refl _) _⟩
          · go_wp2_with fail
            refine (in_any close 0 1099511627776 _).mono ?_
            rintro e w1 ⟨rfl, rfl⟩
            cases h6 : inB close 0 1099511627776
            · go_wp2
              go_ret
              exact ⟨ret_bool (by first | rfl | (rw [h1, h2, decide_eq_true h3, h4, h5, h6]; rfl) | (rw [h1, h2, decide_eq_true h3, h4, h5, h6]; simp)), (Below.refl _ _).alloc (Nat.le_refl _) _⟩
            · cases cash
              · by_cases h8 : close = 0
                · have h8b : (close == 0) = true := by simp [h8]
                  go_wp2
                  go_ret
                  exact ⟨ret_bool (by first | rfl | (rw [h1, h2, decide_eq_true h3, h4, h5, h6, decide_eq_true h8]; rfl) | (rw [h1, h2, decide_eq_true h3, h4, h5, h6, decide_eq_true h8]; simp)), (Below.refl _ _).alloc (Nat.le_refl _) _⟩
                · have h8b : (close == 0) = false := by simp [h8]
                  go_wp2
                  go_ret
                  exact ⟨ret_bool (by first | rfl | (rw [h1, h2, decide_eq_true h3, h4, h5, h6, decide_eq_false h8]; rfl) | (rw [h1, h2, decide_eq_true h3, h4, h5, h6, decide_eq_false h8]; simp)), (Below.refl _ _).alloc (Nat.le_refl _) _⟩
              · cases pledge
                · by_cases h8 : close = 0
                  · have h8b : (close == 0) = true := by simp [h8]
                    go_wp2
                    go_ret
                    exact ⟨ret_bool (by first | rfl | (rw [h1, h2, decide_eq_true h3, h4, h5, h6, decide_eq_true h8]; rfl) | (rw [h1, h2, decide_eq_true h3, h4, h5, h6, decide_eq_true h8]; simp)), (Below.refl _ _).alloc (Nat.le_refl _) _⟩
                  · have h8b : (close == 0) = false := by simp [h8]
                    go_wp2
                    go_ret
                    exact ⟨ret_bool (by first | rfl | (rw [h1, h2, decide_eq_true h3, h4, h5, h6, decide_eq_false h8]; rfl) | (rw [h1, h2, decide_eq_true h3, h4, h5, h6, decide_eq_false h8]; simp)), (Below.refl _ _).alloc (Nat.le_refl _) _⟩
                · go_wp2
                  go_ret
                  exact ⟨ret_bool (by first | rfl | (rw [h1, h2, decide_eq_true h3, h4, h5, h6]; rfl) | (rw [h1, h2, decide_eq_true h3, h4, h5, h6]; simp)), (Below.refl _ _).alloc (Nat.le_refl _) _⟩
      · have h3b : (least % unit == 0) = false := by simp [h3]
        go_wp2
        go_ret
        exact ⟨ret_bool (by first | rfl | (rw [h1, h2, decide_eq_false h3]; rfl) | (rw [h1, h2, decide_eq_false h3]; simp)), (Below.refl _ _).alloc (Nat.le_refl _) _⟩
theorem keyP_any (b : Nat) (w : World) : Calls Try.prog 91 #[.pointer (some ⟨b, 0, none⟩)] w fun e w' => e = .returned (.pointer (some ⟨b, 0, none⟩)) ∧ w = w' := by
  go_enter Try.func91, Try.ntmps91
  go_wp2
  go_ret
  exact ⟨rfl, rfl⟩
theorem keyC_any (b : Nat) (w : World) : Calls Try.prog 97 #[.pointer (some ⟨b, 0, none⟩)] w fun e w' => e = .returned (.pointer (some ⟨b, 0, none⟩)) ∧ w = w' := by
  go_enter Try.func97, Try.ntmps97
  go_wp2
  go_ret
  exact ⟨rfl, rfl⟩
theorem keyS_any (b : Nat) (w : World) : Calls Try.prog 101 #[.pointer (some ⟨b, 0, none⟩)] w fun e w' => e = .returned (.pointer (some ⟨b, 0, none⟩)) ∧ w = w' := by
  go_enter Try.func101, Try.ntmps101
  go_wp2
  go_ret
  exact ⟨rfl, rfl⟩
theorem aheadP_any (x : Party) (w : World) : Calls Try.prog 92 #[Kd.val x] w fun e w' => e = .returned (.int .i64 0) ∧ Below w.heap.size w w' := by
  go_enter Try.func92, Try.ntmps92
  go_wp2
  go_ret
  exact ⟨rfl, (Below.refl _ _).alloc (Nat.le_refl _) _⟩
theorem behindC_any (x : Account) (w : World) : Calls Try.prog 99 #[Kd.val x] w fun e w' => e = .returned (.int .i64 0) ∧ Below w.heap.size w w' := by
  go_enter Try.func99, Try.ntmps99
  go_wp2
  go_ret
  exact ⟨rfl, (Below.refl _ _).alloc (Nat.le_refl _) _⟩
theorem aheadS_any (x : Asset) (w : World) : Calls Try.prog 102 #[Kd.val x] w fun e w' => e = .returned (.int .i64 0) ∧ Below w.heap.size w w' := by
  go_enter Try.func102, Try.ntmps102
  go_wp2
  go_ret
  exact ⟨rfl, (Below.refl _ _).alloc (Nat.le_refl _) _⟩
def limP (x : Party) : Int := rightI (inB x.limit 0 1152921504606846976)
def canI (x : Asset) : Int := rightI (canS x)
theorem behindP_any (x : Party) (w : World) : Calls Try.prog 93 #[Kd.val x] w fun e w' => e = .returned (.int .i64 (limP x)) ∧ Below w.heap.size w w' := by
  obtain ⟨name, limit⟩ := x
  show Calls Try.prog 93 #[.agg #[.string name, .int .i64 limit]] w _
  go_enter Try.func93, Try.ntmps93
  go_wp2_with fail
  refine (in_any limit 0 1152921504606846976 _).mono ?_
  rintro e w1 ⟨rfl, rfl⟩
  go_wp2_with fail
  refine (right_any _ _).mono ?_
  rintro e w1 ⟨rfl, rfl⟩
  go_wp2
  go_ret
  exact ⟨rfl, (Below.refl _ _).alloc (Nat.le_refl _) _⟩
theorem behindS_any (x : Asset) (w : World) : Calls Try.prog 103 #[Kd.val x] w fun e w' => e = .returned (.int .i64 (canI x)) ∧ Below w.heap.size w w' := by
  have HC := fun w => can_any x w
  unfold canI
  obtain ⟨b, hb⟩ : ∃ b, canS x = b := ⟨_, rfl⟩
  rw [hb] at HC ⊢
  clear hb
  obtain ⟨name, cash, pledge, unit, least, price, cut, close⟩ := x
  have HC' : ∀ w, Calls Try.prog 104 #[.agg #[.string name, .bool cash, .bool pledge, .int .i64 unit, .int .i64 least, .int .i64 price, .int .i64 cut, .int .i64 close]] w fun e w' => e = .returned (.bool b) ∧ Below w.heap.size w w' := HC
  clear HC
  show Calls Try.prog 103 #[.agg #[.string name, .bool cash, .bool pledge, .int .i64 unit, .int .i64 least, .int .i64 price, .int .i64 cut, .int .i64 close]] w _
  go_enter Try.func103, Try.ntmps103
  go_wp2_with fail
  refine (HC' _).mono ?_
  rintro e w1 ⟨rfl, hb1⟩
  go_wp2_with fail
  refine (right_any _ _).mono ?_
  rintro e w2 ⟨rfl, rfl⟩
  have HB := Lib.hid (((Below.refl w.heap.size w).alloc (Nat.le_refl _) _).trans (hb1.mono (by simp)))
  clear hb1
  go_wp2
  go_ret
  exact ⟨rfl, HB.out⟩
end Go.Proofs.Ytkcecijepbceiaa
