/-
  The walk of RefNone: of nil data.
  Conditions: a text, an int.
-/
import Derived.Test.YtnpkplegeddhcaaRef7
namespace Go.Proofs.Ytnpkplegeddhcaa
open Go.RowKit Go.Maps Go.Shelf

theorem getP_nil (s : ByteArray) (w : World) : Calls Try.prog 21 #[.pointer none, .string s] w fun e w' => e = .returned (.tuple #[.agg #[.string ⟨#[]⟩, .int .i64 0], .bool false]) ∧ Below w.heap.size w w' := by
  go_enter Try.func21, Try.ntmps21
  go_wp2
  refine bodyPost_ret (results_cell_tmp_row rfl _ _ w.heap.size _ _ _ _ rfl (heap_alloc_new w _) Try.underlying37 rfl infoP) rfl ?_
  exact ⟨rfl, (Below.refl _ _).alloc (Nat.le_refl _) _⟩
theorem getC_nil (s : ByteArray) (w : World) : Calls Try.prog 22 #[.pointer none, .string s] w fun e w' => e = .returned (.tuple #[.agg #[.string ⟨#[]⟩, .string ⟨#[]⟩], .bool false]) ∧ Below w.heap.size w w' := by
  go_enter Try.func22, Try.ntmps22
  go_wp2
  refine bodyPost_ret (results_cell_tmp_row rfl _ _ w.heap.size _ _ _ _ rfl (heap_alloc_new w _) Try.underlying40 rfl infoC) rfl ?_
  exact ⟨rfl, (Below.refl _ _).alloc (Nat.le_refl _) _⟩
theorem getS_nil (s : ByteArray) (w : World) : Calls Try.prog 20 #[.pointer none, .string s] w fun e w' => e = .returned (.tuple #[.agg #[.string ⟨#[]⟩, .bool false, .bool false, .int .i64 0, .int .i64 0, .int .i64 0, .int .i64 0, .int .i64 0], .bool false]) ∧ Below w.heap.size w w' := by
  go_enter Try.func20, Try.ntmps20
  go_wp2
  refine bodyPost_ret (results_cell_tmp_row rfl _ _ w.heap.size _ _ _ _ rfl (heap_alloc_new w _) Try.underlying29 rfl infoS) rfl ?_
  exact ⟨rfl, (Below.refl _ _).alloc (Nat.le_refl _) _⟩
theorem nil_Parties (w : World) : Calls Try.prog 14 #[.pointer none] w fun e w' => e = .returned (.slice none 0 0) ∧ Below w.heap.size w w' := by
  go_enter Try.func14, Try.ntmps14
  go_wp2
  go_ret
  exact ⟨rfl, Below.refl _ _⟩
theorem nil_Assets (w : World) : Calls Try.prog 10 #[.pointer none] w fun e w' => e = .returned (.slice none 0 0) ∧ Below w.heap.size w w' := by
  go_enter Try.func10, Try.ntmps10
  go_wp2
  go_ret
  exact ⟨rfl, Below.refl _ _⟩
theorem nil_Accounts (s : ByteArray) (w : World) : Calls Try.prog 15 #[.pointer none, .string s] w fun e w' => e = .returned (.slice none 0 0) ∧ Below w.heap.size w w' := by
  go_enter Try.func15, Try.ntmps15
  go_wp2
  go_ret
  exact ⟨rfl, (Below.refl _ _).alloc (Nat.le_refl _) _⟩
theorem nil_SetPrice (s : ByteArray) (n : Int) (w : World) : Calls Try.prog 18 #[.pointer none, .string s, .int .i64 n] w fun e w' => e = .returned (.int .i64 1) ∧ Below w.heap.size w w' := by
  go_enter Try.func18, Try.ntmps18
  go_wp2
  go_ret
  exact ⟨rfl, Below.refl _ _⟩
theorem nil_SetLimit (s : ByteArray) (n : Int) (w : World) : Calls Try.prog 19 #[.pointer none, .string s, .int .i64 n] w fun e w' => e = .returned (.int .i64 1) ∧ Below w.heap.size w w' := by
  go_enter Try.func19, Try.ntmps19
  go_wp2
  go_ret
  exact ⟨rfl, Below.refl _ _⟩
theorem nil_AddParties (v : Value) (w : World) : Calls Try.prog 12 #[.pointer none, v] w fun e w' => e = .returned (.int .i64 1) ∧ Below w.heap.size w w' := by
  go_enter Try.func12, Try.ntmps12
  go_wp2
  go_ret
  exact ⟨rfl, Below.refl _ _⟩
theorem nil_AddAssets (v : Value) (w : World) : Calls Try.prog 9 #[.pointer none, v] w fun e w' => e = .returned (.int .i64 1) ∧ Below w.heap.size w w' := by
  go_enter Try.func9, Try.ntmps9
  go_wp2
  go_ret
  exact ⟨rfl, Below.refl _ _⟩
theorem nil_AddAccounts (v : Value) (w : World) : Calls Try.prog 13 #[.pointer none, v] w fun e w' => e = .returned (.int .i64 1) ∧ Below w.heap.size w w' := by
  go_enter Try.func13, Try.ntmps13
  go_wp2
  go_ret
  exact ⟨rfl, (Below.refl _ _).alloc (Nat.le_refl _) _⟩

set_option maxHeartbeats 4000000 in
set_option maxRecDepth 10000 in
theorem rnone_walk (s : ByteArray) (n : Int) (w : World) : Calls Try.prog 6 #[.string s, .int .i64 n] w fun e w' => e = .returned (.bool true) ∧ Below w.heap.size w w' := by
  go_enter Try.func6, Try.ntmps6
  go_wp2_with fail
  refine (getP_nil s _).mono ?_
  rintro e w1 ⟨rfl, hb1⟩
  go_wp2_with fail
  refine (getC_nil s _).mono ?_
  rintro e w2 ⟨rfl, hb2⟩
  go_wp2_with fail
  refine (getS_nil s _).mono ?_
  rintro e w3 ⟨rfl, hb3⟩
  go_wp2_with fail
  refine (alive9_any _).mono ?_
  rintro e w4 ⟨rfl, hb4⟩
  go_wp2_with fail
  refine (nil_Parties _).mono ?_
  rintro e w5 ⟨rfl, hb5⟩
  go_wp2_with fail
  refine (nil_Accounts s _).mono ?_
  rintro e w6 ⟨rfl, hb6⟩
  go_wp2_with fail
  refine (nil_Assets _).mono ?_
  rintro e w7 ⟨rfl, hb7⟩
  go_wp2_with fail
  refine (nil_SetPrice s n _).mono ?_
  rintro e w8 ⟨rfl, hb8⟩
  go_wp2_with fail
  refine (nil_SetLimit s n _).mono ?_
  rintro e w9 ⟨rfl, hb9⟩
  go_wp2_with fail
  refine (nil_AddParties _ _).mono ?_
  rintro e w10 ⟨rfl, hb10⟩
  go_wp2_with fail
  refine (nil_AddAccounts _ _).mono ?_
  rintro e w11 ⟨rfl, hb11⟩
  go_wp2_with fail
  refine (nil_AddAssets _ _).mono ?_
  rintro e w12 ⟨rfl, hb12⟩
  go_wp2
  go_ret
  have c0 := Below.refl w.heap.size w
  have d1 := c0.trans (hb1.mono c0.size)
  have c1 : Below w.heap.size w w1 := d1
  have d2 := (c1.alloc c1.size (.cells #[.string ⟨#[]⟩, .int .i64 0] 37)).trans (hb2.mono (by have := c1.size; simp; omega))
  have c2 : Below w.heap.size w w2 := d2
  have d3 := (c2.alloc c2.size (.cells #[.string ⟨#[]⟩, .string ⟨#[]⟩] 40)).trans (hb3.mono (by have := c2.size; simp; omega))
  have c3 : Below w.heap.size w w3 := d3
  have d4 := (c3.alloc c3.size (.cells #[.string ⟨#[]⟩, .bool false, .bool false, .int .i64 0, .int .i64 0, .int .i64 0, .int .i64 0, .int .i64 0] 29)).trans (hb4.mono (by have := c3.size; simp; omega))
  have c4 : Below w.heap.size w w4 := d4
  have d5 := c4.trans (hb5.mono c4.size)
  have c5 : Below w.heap.size w w5 := d5
  have d6 := c5.trans (hb6.mono c5.size)
  have c6 : Below w.heap.size w w6 := d6
  have d7 := c6.trans (hb7.mono c6.size)
  have c7 : Below w.heap.size w w7 := d7
  have d8 := c7.trans (hb8.mono c7.size)
  have c8 : Below w.heap.size w w8 := d8
  have d9 := c8.trans (hb9.mono c8.size)
  have c9 : Below w.heap.size w w9 := d9
  have d10 := (c9.alloc c9.size (.cells #[.string ⟨#[80]⟩, .int .i64 0] 37)).trans (hb10.mono (by have := c9.size; simp; omega))
  have c10 : Below w.heap.size w w10 := d10
  have d11 := (c10.alloc c10.size (.cells #[.string ⟨#[80]⟩, .string ⟨#[]⟩] 40)).trans (hb11.mono (by have := c10.size; simp; omega))
  have c11 : Below w.heap.size w w11 := d11
  have d12 := (c11.alloc c11.size (.cells #[.string ⟨#[80]⟩, .bool false, .bool false, .int .i64 0, .int .i64 0, .int .i64 0, .int .i64 0, .int .i64 0] 29)).trans (hb12.mono (by have := c11.size; simp; omega))
  have c12 : Below w.heap.size w w12 := d12
  exact ⟨rfl, c12⟩
end Go.Proofs.Ytnpkplegeddhcaa
