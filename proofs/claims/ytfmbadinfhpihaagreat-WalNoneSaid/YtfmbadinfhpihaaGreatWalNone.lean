/-
  WalNone: of a nil and of a zero log; of no disk.
  Conditions: texts.
-/
import Derived.Test.YtfmbadinfhpihaaGreatWalC
namespace Go.Proofs.YtfmbadinfhpihaaGreat
open Go.RowKit Go.Maps
set_option maxRecDepth 100000

/-- A nil log, or one without a disk. -/
def Hollow (v : Value) (w : World) : Prop := v = .pointer none ∨ ∃ g, v = .pointer (some ⟨g, 0, none⟩) ∧ w.cell? ⟨g, 0, none⟩ = some (.pointer none) ∧ g < w.heap.size
theorem Hollow.below {v : Value} {w w' : World} (h : Hollow v w) (hb : Below w.heap.size w w') : Hollow v w' := by
  rcases h with h | ⟨g, h1, h2, h3⟩
  · exact .inl h
  · exact .inr ⟨g, h1, (hb.cell (show g < _ from h3)).trans h2, Nat.lt_of_lt_of_le h3 hb.size⟩
theorem none_hollow (v : Value) (w : World) (h : Hollow v w) : Calls Tryz.prog 42 #[v] w fun e w' => e = .returned (.bool true) ∧ w = w' := by
  rcases h with rfl | ⟨g, rfl, h2, h3⟩
  all_goals
    go_enter Tryz.func42, Tryz.ntmps42
    go_wp2
    go_ret
    exact ⟨rfl, rfl⟩
theorem records_hollow (v : Value) (w : World) (h : Hollow v w) : Calls Tryz.prog 12 #[v] w fun e w' => e = .returned (.slice none 0 0) ∧ w = w' := by
  have q := none_hollow v w h
  have hv : (∃ p, v = .pointer p) := by rcases h with rfl | ⟨g, rfl, _⟩ <;> exact ⟨_, rfl⟩
  obtain ⟨p, rfl⟩ := hv
  clear h
  go_enter Tryz.func12, Tryz.ntmps12
  go_wp2_with fail
  refine q.mono ?_
  rintro e w1 ⟨rfl, rfl⟩
  go_wp2
  go_ret
  exact ⟨rfl, rfl⟩
theorem groups_hollow (v : Value) (w : World) (h : Hollow v w) : Calls Tryz.prog 13 #[v] w fun e w' => e = .returned (.int .i64 0) ∧ w = w' := by
  have q := none_hollow v w h
  have hv : (∃ p, v = .pointer p) := by rcases h with rfl | ⟨g, rfl, _⟩ <;> exact ⟨_, rfl⟩
  obtain ⟨p, rfl⟩ := hv
  clear h
  go_enter Tryz.func13, Tryz.ntmps13
  go_wp2_with fail
  refine q.mono ?_
  rintro e w1 ⟨rfl, rfl⟩
  go_wp2
  go_ret
  exact ⟨rfl, rfl⟩
theorem size_hollow (v : Value) (w : World) (h : Hollow v w) : Calls Tryz.prog 14 #[v] w fun e w' => e = .returned (.int .i64 0) ∧ w = w' := by
  have q := none_hollow v w h
  have hv : (∃ p, v = .pointer p) := by rcases h with rfl | ⟨g, rfl, _⟩ <;> exact ⟨_, rfl⟩
  obtain ⟨p, rfl⟩ := hv
  clear h
  go_enter Tryz.func14, Tryz.ntmps14
  go_wp2_with fail
  refine q.mono ?_
  rintro e w1 ⟨rfl, rfl⟩
  go_wp2
  go_ret
  exact ⟨rfl, rfl⟩
theorem commit_hollow (v : Value) (l : Value) (w : World) (h : Hollow v w) : Calls Tryz.prog 11 #[v, l] w fun e w' => e = .returned (.int .i64 1) ∧ Below w.heap.size w w' := by
  have hv : (∃ p, v = .pointer p) := by rcases h with rfl | ⟨g, rfl, _⟩ <;> exact ⟨_, rfl⟩
  obtain ⟨p, rfl⟩ := hv
  obtain ⟨W, hW⟩ : ∃ W, w.alloc (.cells #[.pointer p] 24) = W := ⟨_, rfl⟩
  have hb : Below w.heap.size w W := by rw [← hW]; exact (Below.refl _ _).alloc (Nat.le_refl _) _
  have q := none_hollow _ W (h.below hb)
  have c0 : W.cell? ⟨w.heap.size, 0, none⟩ = some (.pointer p) := by rw [← hW]; exact cell_new1 _ _ _
  have HB := Lib.hid hb
  clear h hb
  go_enter Tryz.func11, Tryz.ntmps11
  go_wp2_with fail
  refine q.mono ?_
  rintro e w1 ⟨rfl, rfl⟩
  go_wp2
  go_ret
  exact ⟨rfl, HB.out⟩
theorem open_nil (nm : ByteArray) (w : World) : Calls Tryz.prog 10 #[.pointer none, .string nm] w fun e w' => e = .returned (.tuple #[.pointer none, .int .i64 1]) ∧ w = w' := by
  go_enter Tryz.func10, Tryz.ntmps10
  go_wp2
  go_ret2
  exact ⟨rfl, rfl⟩
set_option maxHeartbeats 8000000 in
theorem wnone_walk (nm : ByteArray) (ss : List ByteArray) (A : Option Addr) (cp : Nat) (w : World) (hl : ss.length ≤ 9223372036854775807) :
    Calls Tryz.prog 3 #[.string nm, .slice A ss.length cp] w fun e w' => e = .returned (.bool true) ∧ Below w.heap.size w w' := by
  obtain ⟨n, hn⟩ : ∃ n, ss.length = n := ⟨_, rfl⟩
  rw [hn] at hl ⊢
  clear hn
  by_cases h50 : 50 < n
  · go_enter Tryz.func3, Tryz.ntmps3
    go_wp2_with fail
    refine (alive6_any _).mono ?_
    rintro e w1 ⟨rfl, hb1⟩
    go_wp2
    go_ret
    exact ⟨rfl, hb1⟩
  · have hz : ∀ W : World, Hollow (.pointer (some ⟨W.heap.size, 0, none⟩)) (W.alloc (.cells #[.pointer none, .string ⟨#[]⟩, .slice none 0 0, .int .i64 0, .int .i64 0, .bool false] 27)) := fun W => .inr ⟨_, rfl, by rw [Lib.cell_of_heap (heap_alloc_new W _)]; rfl, by simp⟩
    have HZ := Lib.hid hz
    clear hz
    by_cases h0 : n = 0
    · have hb0 : ((n : Int) == 0) = true := by rw [h0]; rfl
      clear h0
      go_enter Tryz.func3, Tryz.ntmps3
      go_wp2_with fail
      refine (open_nil _ _).mono ?_
      rintro e w1 ⟨rfl, rfl⟩
      go_wp2_with fail
      refine (alive6_any _).mono ?_
      rintro e w1 ⟨rfl, hb1⟩
      have HH0 := Lib.hid ((HZ.out w).below hb1)
      have HB0 := Lib.hid (((Below.refl w.heap.size w).alloc (Nat.le_refl _) (.cells #[.pointer none, .string ⟨#[]⟩, .slice none 0 0, .int .i64 0, .int .i64 0, .bool false] 27)).trans (hb1.mono (by simp)))
      clear hb1
      have HH := HH0; have HB := HB0
      clear HH0 HB0
      go_wp2_with fail
      refine (records_hollow _ _ (.inl rfl)).mono ?_
      rintro e w9 ⟨rfl, rfl⟩
      go_wp2_with fail
      refine (records_hollow _ _ HH.out).mono ?_
      rintro e w9 ⟨rfl, rfl⟩
      go_wp2_with fail
      refine (groups_hollow _ _ (.inl rfl)).mono ?_
      rintro e w9 ⟨rfl, rfl⟩
      go_wp2_with fail
      refine (groups_hollow _ _ HH.out).mono ?_
      rintro e w9 ⟨rfl, rfl⟩
      go_wp2_with fail
      refine (size_hollow _ _ (.inl rfl)).mono ?_
      rintro e w9 ⟨rfl, rfl⟩
      go_wp2_with fail
      refine (size_hollow _ _ HH.out).mono ?_
      rintro e w9 ⟨rfl, rfl⟩
      go_wp2
      go_ret
      exact ⟨rfl, HB.out⟩
    · have hb0 : ((n : Int) == 0) = false := beq_false_of_ne (by omega)
      go_enter Tryz.func3, Tryz.ntmps3
      go_wp2_with fail
      refine (open_nil _ _).mono ?_
      rintro e w1 ⟨rfl, rfl⟩
      go_wp2_with fail
      refine (alive6_any _).mono ?_
      rintro e w1 ⟨rfl, hb1⟩
      have HH0 := Lib.hid ((HZ.out w).below hb1)
      have HB0 := Lib.hid (((Below.refl w.heap.size w).alloc (Nat.le_refl _) (.cells #[.pointer none, .string ⟨#[]⟩, .slice none 0 0, .int .i64 0, .int .i64 0, .bool false] 27)).trans (hb1.mono (by simp)))
      clear hb1
      go_wp2_with fail
      refine (commit_hollow _ _ _ (.inl rfl)).mono ?_
      rintro e w2 ⟨rfl, hb2⟩
      have HH1 := Lib.hid (HH0.out.below hb2)
      have HB1 := Lib.hid (HB0.out.trans (hb2.mono HB0.out.size))
      clear hb2 HH0 HB0
      go_wp2_with fail
      refine (commit_hollow _ _ _ HH1.out).mono ?_
      rintro e w3 ⟨rfl, hb3⟩
      have HH := Lib.hid (HH1.out.below hb3)
      have HB := Lib.hid (HB1.out.trans (hb3.mono HB1.out.size))
      clear hb3 HH1 HB1
      go_wp2_with fail
      refine (records_hollow _ _ (.inl rfl)).mono ?_
      rintro e w9 ⟨rfl, rfl⟩
      go_wp2_with fail
      refine (records_hollow _ _ HH.out).mono ?_
      rintro e w9 ⟨rfl, rfl⟩
      go_wp2_with fail
      refine (groups_hollow _ _ (.inl rfl)).mono ?_
      rintro e w9 ⟨rfl, rfl⟩
      go_wp2_with fail
      refine (groups_hollow _ _ HH.out).mono ?_
      rintro e w9 ⟨rfl, rfl⟩
      go_wp2_with fail
      refine (size_hollow _ _ (.inl rfl)).mono ?_
      rintro e w9 ⟨rfl, rfl⟩
      go_wp2_with fail
      refine (size_hollow _ _ HH.out).mono ?_
      rintro e w9 ⟨rfl, rfl⟩
      go_wp2
      go_ret
      exact ⟨rfl, HB.out⟩
end Go.Proofs.YtfmbadinfhpihaaGreat
