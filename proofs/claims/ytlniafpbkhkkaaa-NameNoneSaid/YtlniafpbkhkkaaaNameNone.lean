/-
  NameNone: of a nil set, and of an owned one without a set.
  Conditions: texts in a list that the call reads.
-/
import Derived.Test.YtlniafpbkhkkaaaNameBack
namespace Go.Proofs.Ytlniafpbkhkkaaa
open Go.RowKit Go.Maps

theorem add_nil (A : Option Addr) (n cp : Nat) (w : World) : Calls Try.prog 14 #[.pointer none, .slice A n cp] w fun e w' => e = .returned (.int .i64 0) ∧ w = w' := by
  go_enter Try.func14, Try.ntmps14
  go_wp2
  go_ret
  exact ⟨rfl, rfl⟩
theorem del_nil (A : Option Addr) (n cp : Nat) (w : World) : Calls Try.prog 15 #[.pointer none, .slice A n cp] w fun e w' => e = .returned (.int .i64 0) ∧ w = w' := by
  go_enter Try.func15, Try.ntmps15
  go_wp2_with fail
  refine (len_nil _).mono ?_
  rintro e w1 ⟨rfl, rfl⟩
  go_wp2
  go_ret
  exact ⟨rfl, rfl⟩

set_option maxHeartbeats 4000000 in
set_option maxRecDepth 100000 in
theorem nnone_walk (ss : List ByteArray) (A : Option Addr) (cp : Nat) (w : World) (hrs : Reads w w.heap.size 1 A ss.length (strs ss)) (hl : ss.length ≤ 9223372036854775807) (hs : ∀ s ∈ ss, s.size ≤ 9223372036854775807) :
    Calls Try.prog 5 #[.slice A ss.length cp] w fun e w' => e = .returned (.bool true) ∧ Below w.heap.size w w' := by
  have h1 := short2_any ss A cp w hrs hl hs
  obtain ⟨x, hx⟩ : ∃ x, shortB 300 9000 ss = x := ⟨_, rfl⟩
  obtain ⟨n, hn⟩ : ∃ n, ss.length = n := ⟨_, rfl⟩
  rw [hx, hn] at h1
  rw [hn]
  have H1 := Lib.hid h1
  clear h1 hx hn hrs hs hl
  cases x
  · go_enter Try.func5, Try.ntmps5
    go_wp2_with fail
    refine H1.out.mono ?_
    rintro e w1 ⟨rfl, hb1⟩
    have HB1 := Lib.hid hb1
    clear hb1
    go_wp2_with fail
    refine (alive2_any _).mono ?_
    rintro e w2 ⟨rfl, hb2⟩
    have HB2 := Lib.hid (HB1.out.trans (hb2.mono HB1.out.size))
    clear hb2
    go_wp2
    go_ret
    exact ⟨rfl, HB2.out⟩
  · go_enter Try.func5, Try.ntmps5
    go_wp2_with fail
    refine H1.out.mono ?_
    rintro e w1 ⟨rfl, hb1⟩
    have HB1 := Lib.hid hb1
    clear hb1
    go_wp2
    have c1 : (w1.alloc (.cells #[.pointer none, .string ⟨#[88]⟩] 34)).cell? ⟨w1.heap.size, 0, none⟩ = some (.pointer none) := by rw [Lib.cell_of_heap (heap_alloc_new w1 _)]; rfl
    go_region_held3 (fun W => W.cell? ⟨w1.heap.size, 0, none⟩ = some (.pointer none))
      (first | exact c1 | assumption | exact (hb2.cell (show (⟨w1.heap.size, 0, none⟩ : Addr).block < _ by show w1.heap.size < _; simp)).trans c1)
      (first
        | (go_at_call 9; refine (alive2_any _).mono ?_; rintro e w2 ⟨rfl, hb2⟩)
        | (go_at_call 14; refine (add_nil _ _ _ _).mono ?_; rintro e w3 ⟨rfl, rfl⟩)
        | (go_at_call 15; refine (del_nil _ _ _ _).mono ?_; rintro e w3 ⟨rfl, rfl⟩)
        | (go_at_call 16; refine (len_nil _).mono ?_; rintro e w3 ⟨rfl, rfl⟩)
        | (go_at_call 17; refine (list_nil _).mono ?_; rintro e w3 ⟨rfl, rfl⟩)
        | (go_at_call 18; refine (has_nil _ _).mono ?_; rintro e w3 ⟨rfl, rfl⟩))
    go_wp2
    go_ret
    refine ⟨rfl, ?_⟩
    have h := (HB1.out.alloc HB1.out.size (.cells #[.pointer none, .string ⟨#[88]⟩] 34)).drew
    exact h.trans (hb2.mono h.size)
end Go.Proofs.Ytlniafpbkhkkaaa
