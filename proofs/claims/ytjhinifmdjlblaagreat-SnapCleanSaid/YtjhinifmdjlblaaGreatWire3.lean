/-
  Package wire's writer as contracts: Bool of many, Bytes, Fail.
  Conditions: a writer that the call has made; what is put lies in memory that a writer does not write; what it holds in the end takes at most 10^9 bytes.
-/
import Derived.Test.YtjhinifmdjlblaaGreatWire2
namespace Go.Proofs.YtjhinifmdjlblaaGreat.Wi
open Go.RowKit

set_option maxHeartbeats 400000 in
theorem bytes_ok (g : Nat) (S : List Nat) (bs : List UInt8) (w : World) (h : WrAt g S 0 bs w) :
    Calls Tryz.prog 106 #[.pointer (some ⟨g, 0, none⟩)] w fun r w' => r = .returned (.tuple #[.string ⟨bs.toArray⟩, .int .i64 0]) ∧ w = w' := by
  have c0 := h.cell0
  obtain ⟨sv, _, hbk, hown, hne⟩ := h
  have e1 : w.cell? ⟨g, 1, none⟩ = some sv := by rw [Lib.cell_of_heap hbk]; rfl
  rw [Lib.byteCells_length] at hown
  obtain ⟨ao, n, cap, rfl, hn⟩ : ∃ ao n cap, sv = .slice ao n cap ∧ bs.length = n := by
    rcases hown.2 with ⟨hv, h0⟩ | ⟨g', cap, cur, hv, _⟩
    · exact ⟨none, 0, 0, hv, h0⟩
    · exact ⟨_, _, _, hv, rfl⟩
  rw [hn] at hown
  have hcv := run_bytes_string (P := Tryz.prog) (c := cap) w Tryz.underlying39 Tryz.underlying5 Tryz.underlying9 hn (Reads.of_own hown)
  clear hbk hown hne hn
  go_enter Tryz.func106, Tryz.ntmps106
  go_wp2_with (go_at_call 119; refine (wrong_any g 0 _ c0).mono ?_; rintro e w1 ⟨rfl, rfl⟩)
  go_ret2
  exact ⟨rfl, rfl⟩

theorem bytes_err (g : Nat) (e : Int) (he : e ≠ 0) (w : World) (c0 : w.cell? ⟨g, 0, none⟩ = some (.int .i64 e)) :
    Calls Tryz.prog 106 #[.pointer (some ⟨g, 0, none⟩)] w fun r w' => r = .returned (.tuple #[.string ⟨#[]⟩, .int .i64 e]) ∧ w = w' := by
  have he' : (e != 0) = true := by simp [he]
  clear he
  go_enter Tryz.func106, Tryz.ntmps106
  go_wp2_with (go_at_call 119; refine (wrong_any g e _ c0).mono ?_; rintro e w1 ⟨rfl, rfl⟩)
  go_ret2
  exact ⟨rfl, rfl⟩

/-- What Bytes tells. -/
def bytesOf (st : Wire.St) : List UInt8 := if st.1 = 0 then st.2 else []
theorem bytes_any (g : Nat) (S : List Nat) (st : Wire.St) (w : World) (h : WrAt g S st.1 st.2 w) :
    Calls Tryz.prog 106 #[.pointer (some ⟨g, 0, none⟩)] w fun r w' => r = .returned (.tuple #[.string ⟨(bytesOf st).toArray⟩, .int .i64 st.1]) ∧ w = w' := by
  unfold bytesOf
  by_cases he : st.1 = 0
  · rw [he] at h ⊢
    rw [if_pos rfl]
    exact bytes_ok g S st.2 w h
  · rw [if_neg he]
    exact bytes_err g st.1 he w h.cell0

theorem wfail_any (g : Nat) (S : List Nat) (st : Wire.St) (x : Int) (w : World) (h : WrAt g S st.1 st.2 w) :
    Calls Tryz.prog 137 #[.pointer (some ⟨g, 0, none⟩), .int .i64 x] w fun r w' => r = .returned (.tuple #[]) ∧ ∃ S', WrAt g S' (Wire.stFail st x).1 (Wire.stFail st x).2 w' ∧ Mv S S' w w' := by
  refine (fail_any g st.1 x w h.cell0 (h.frozen 0)).mono ?_
  rintro r w' ⟨rfl, rfl⟩
  unfold Wire.stFail
  by_cases he : st.1 = 0
  · rw [if_pos he, if_pos he]
    exact ⟨rfl, _, h.setErr x, (Mv.refl _ _).set_ h.own 0 _⟩
  · rw [if_neg he, if_neg he]
    exact ⟨rfl, _, h, Mv.refl _ _⟩
end Go.Proofs.YtjhinifmdjlblaaGreat.Wi
