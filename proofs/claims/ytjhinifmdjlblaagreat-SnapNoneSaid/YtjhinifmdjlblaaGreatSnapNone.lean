/-
  SnapNone: of a nil and of a zero store; of no disk.
  Conditions: texts.
-/
import Derived.Test.YtjhinifmdjlblaaGreatSn10
namespace Go.Proofs.YtjhinifmdjlblaaGreat
open Go.RowKit Go.Maps
set_option maxRecDepth 100000

/-- A nil store, or one without a log. -/
def HollowS (v : Value) (w : World) : Prop := v = .pointer none ∨ ∃ g, v = .pointer (some ⟨g, 0, none⟩) ∧ w.cell? ⟨g, 0, none⟩ = some (.pointer none) ∧ g < w.heap.size
theorem HollowS.below {v : Value} {w w' : World} (h : HollowS v w) (hb : Below w.heap.size w w') : HollowS v w' := by
  rcases h with h | ⟨g, h1, h2, h3⟩
  · exact .inl h
  · exact .inr ⟨g, h1, (hb.cell (show g < _ from h3)).trans h2, Nat.lt_of_lt_of_le h3 hb.size⟩
theorem snone_hollow (v : Value) (w : World) (h : HollowS v w) : Calls Tryz.prog 31 #[v] w fun e w' => e = .returned (.bool true) ∧ w = w' := by
  rcases h with rfl | ⟨g, rfl, h2, h3⟩
  all_goals
    go_enter Tryz.func31, Tryz.ntmps31
    go_wp2
    go_ret
    exact ⟨rfl, rfl⟩
theorem base_hollow (v : Value) (w : World) (h : HollowS v w) : Calls Tryz.prog 7 #[v] w fun e w' => e = .returned (.tuple #[.string ⟨#[]⟩, .bool false]) ∧ w = w' := by
  have q := snone_hollow v w h
  have hv : (∃ p, v = .pointer p) := by rcases h with rfl | ⟨g, rfl, _⟩ <;> exact ⟨_, rfl⟩
  obtain ⟨p, rfl⟩ := hv
  clear h
  go_enter Tryz.func7, Tryz.ntmps7
  go_wp2_with fail
  refine q.mono ?_
  rintro e w1 ⟨rfl, rfl⟩
  go_wp2
  go_ret2
  exact ⟨rfl, rfl⟩
theorem round_hollow (v : Value) (w : World) (h : HollowS v w) : Calls Tryz.prog 10 #[v] w fun e w' => e = .returned (.int .i64 0) ∧ w = w' := by
  have q := snone_hollow v w h
  have hv : (∃ p, v = .pointer p) := by rcases h with rfl | ⟨g, rfl, _⟩ <;> exact ⟨_, rfl⟩
  obtain ⟨p, rfl⟩ := hv
  clear h
  go_enter Tryz.func10, Tryz.ntmps10
  go_wp2_with fail
  refine q.mono ?_
  rintro e w1 ⟨rfl, rfl⟩
  go_wp2
  go_ret
  exact ⟨rfl, rfl⟩
theorem save_hollow (v : Value) (s : ByteArray) (w : World) (h : HollowS v w) : Calls Tryz.prog 9 #[v, .string s] w fun e w' => e = .returned (.int .i64 1) ∧ w = w' := by
  have q := snone_hollow v w h
  have hv : (∃ p, v = .pointer p) := by rcases h with rfl | ⟨g, rfl, _⟩ <;> exact ⟨_, rfl⟩
  obtain ⟨p, rfl⟩ := hv
  clear h
  go_enter Tryz.func9, Tryz.ntmps9
  go_wp2_with fail
  refine q.mono ?_
  rintro e w1 ⟨rfl, rfl⟩
  go_wp2
  go_ret
  exact ⟨rfl, rfl⟩
theorem scommit_hollow (v : Value) (A : Option Addr) (n c : Nat) (w : World) (h : HollowS v w) : Calls Tryz.prog 11 #[v, .slice A n c] w fun e w' => e = .returned (.int .i64 1) ∧ w = w' := by
  have q := snone_hollow v w h
  have hv : (∃ p, v = .pointer p) := by rcases h with rfl | ⟨g, rfl, _⟩ <;> exact ⟨_, rfl⟩
  obtain ⟨p, rfl⟩ := hv
  clear h
  go_enter Tryz.func11, Tryz.ntmps11
  go_wp2_with fail
  refine q.mono ?_
  rintro e w1 ⟨rfl, rfl⟩
  go_wp2
  go_ret
  exact ⟨rfl, rfl⟩
theorem sopen_hollow (s : ByteArray) (w : World) : Calls Tryz.prog 6 #[.pointer none, .string s] w fun e w' => e = .returned (.tuple #[.pointer none, .int .i64 1]) ∧ w = w' := by
  go_enter Tryz.func6, Tryz.ntmps6
  go_wp2
  go_ret2
  exact ⟨rfl, rfl⟩
set_option maxHeartbeats 4000000 in
theorem snone_walk (dir s : ByteArray) (A : Option Addr) (n c : Nat) (w : World) :
    Calls Tryz.prog 3 #[.string dir, .string s, .slice A n c] w fun e w' => e = .returned (.bool true) ∧ Below w.heap.size w w' := by
  obtain ⟨W1, hW1⟩ : ∃ W, w.alloc (.cells #[.pointer none, .pointer none, .string ⟨#[]⟩, .int .i64 0, .string ⟨#[]⟩, .bool false] 27) = W := ⟨_, rfl⟩
  have hb1 : Below w.heap.size w W1 := by rw [← hW1]; exact (Below.refl _ _).alloc (Nat.le_refl _) _
  have hz1 : HollowS (.pointer (some ⟨w.heap.size, 0, none⟩)) W1 := .inr ⟨_, rfl, by rw [← hW1, Lib.cell_of_heap (heap_alloc_new w _)]; rfl, by rw [← hW1]; simp⟩
  have HN : ∀ W, HollowS (.pointer none) W := fun _ => .inl rfl
  have HB1 := Lib.hid hb1
  have HZ1 := Lib.hid hz1
  have q0 := sopen_hollow dir W1
  have q1 := base_hollow (.pointer none) W1 (HN _)
  have q2 := base_hollow _ W1 hz1
  clear hb1 hz1
  have hee : ((⟨#[]⟩ : ByteArray) ++ ⟨#[]⟩) = ⟨#[]⟩ := rfl
  by_cases h0 : n = 0
  · subst h0
    go_enter Tryz.func3, Tryz.ntmps3
    go_wp2_with fail
    refine q0.mono ?_
    rintro e w2 ⟨rfl, rfl⟩
    go_wp2_with fail
    refine q1.mono ?_
    rintro e w2 ⟨rfl, rfl⟩
    go_wp2_with fail
    refine q2.mono ?_
    rintro e w2 ⟨rfl, rfl⟩
    clear q0 q1 q2
    go_wp2_with fail
    refine (alive7_any _).mono ?_
    rintro e w3 ⟨rfl, hb3⟩
    have HZ3 := HZ1.out.below hb3
    have HB3 := Lib.hid (HB1.out.trans (hb3.mono HB1.out.size))
    have q3 := save_hollow (.pointer none) s w3 (HN _)
    have q4 := save_hollow _ s w3 HZ3
    have q5 := round_hollow (.pointer none) w3 (HN _)
    have q6 := round_hollow _ w3 HZ3
    clear hb3 HZ3 HZ1
    go_wp2_with fail
    refine q3.mono ?_
    rintro e w4 ⟨rfl, rfl⟩
    go_wp2_with fail
    refine q4.mono ?_
    rintro e w4 ⟨rfl, rfl⟩
    go_wp2_with fail
    refine q5.mono ?_
    rintro e w4 ⟨rfl, rfl⟩
    go_wp2_with fail
    refine q6.mono ?_
    rintro e w4 ⟨rfl, rfl⟩
    go_wp2
    go_ret
    exact ⟨rfl, HB3.out⟩
  · have hn0 : ((n : Int) == 0) = false := by simp; omega
    clear h0
    go_enter Tryz.func3, Tryz.ntmps3
    go_wp2_with fail
    refine q0.mono ?_
    rintro e w2 ⟨rfl, rfl⟩
    go_wp2_with fail
    refine q1.mono ?_
    rintro e w2 ⟨rfl, rfl⟩
    go_wp2_with fail
    refine q2.mono ?_
    rintro e w2 ⟨rfl, rfl⟩
    clear q0 q1 q2
    go_wp2_with fail
    refine (alive7_any _).mono ?_
    rintro e w3 ⟨rfl, hb3⟩
    have HZ3 := HZ1.out.below hb3
    have HB3 := Lib.hid (HB1.out.trans (hb3.mono HB1.out.size))
    have q3 := save_hollow (.pointer none) s w3 (HN _)
    have q4 := save_hollow _ s w3 HZ3
    have q5 := round_hollow (.pointer none) w3 (HN _)
    have q6 := round_hollow _ w3 HZ3
    have q7 := scommit_hollow (.pointer none) A n c w3 (HN _)
    have q8 := scommit_hollow _ A n c w3 HZ3
    clear hb3 HZ3 HZ1
    go_wp2_with fail
    refine q3.mono ?_
    rintro e w4 ⟨rfl, rfl⟩
    go_wp2_with fail
    refine q4.mono ?_
    rintro e w4 ⟨rfl, rfl⟩
    go_wp2_with fail
    refine q5.mono ?_
    rintro e w4 ⟨rfl, rfl⟩
    go_wp2_with fail
    refine q6.mono ?_
    rintro e w4 ⟨rfl, rfl⟩
    go_wp2_with fail
    refine q7.mono ?_
    rintro e w4 ⟨rfl, rfl⟩
    go_wp2_with fail
    refine q8.mono ?_
    rintro e w4 ⟨rfl, rfl⟩
    go_wp2
    go_ret
    exact ⟨rfl, HB3.out⟩
end Go.Proofs.YtjhinifmdjlblaaGreat
