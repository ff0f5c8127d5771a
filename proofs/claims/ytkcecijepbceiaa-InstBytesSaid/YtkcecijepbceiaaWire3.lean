/-
  Package wire's writer as contracts: Bool of many, Bytes, Fail.
  Conditions: a writer that the call has made; what is put lies in memory that a writer does not write; what it holds in the end takes at most 10^9 bytes.
-/
import Derived.Test.YtkcecijepbceiaaWire2
namespace Go.Proofs.Ytkcecijepbceiaa
open Go.RowKit

def bools (l : List Bool) : List Value := l.map Value.bool
theorem bools_len (l : List Bool) : (bools l).length = l.length := by simp [bools]
theorem bool_at {w : World} {B n k : Nat} {A : Option Addr} {l : List Bool} (h : Reads w B 1 A n (bools l)) (hk : k < n) :
    ∃ ad x, A = some ad ∧ ad.block < B ∧ l[k]? = some x ∧ w.cell? (ad.add k) = some (.bool x) := by
  obtain ⟨ad, u, hA, hb, hx, hc⟩ := h.at_ hk
  simp only [bools, List.getElem?_map, Option.map_eq_some_iff] at hx
  obtain ⟨s, hs, rfl⟩ := hx
  exact ⟨ad, s, hA, hb, hs, hc⟩

set_option maxHeartbeats 1000000 in
set_option maxRecDepth 100000 in
theorem bools_any (g : Nat) (S : List Nat) (st : Wire.St) (l : List Bool) (A : Option Addr) (c C : Nat) (w : World) (h : WrAt g S st.1 st.2 w)
    (hr : Reads w C 1 A l.length (bools l)) (hsafe : ∀ ad, A = some ad → 0 < l.length → ad.block ∉ S ∧ ad.block < w.heap.size) (hN : st.2.length + l.length ≤ 1000000000) :
    Calls Try.prog 39 #[.pointer (some ⟨g, 0, none⟩), .slice A l.length c] w fun r w' => r = .returned (.tuple #[]) ∧ ∃ S', WrAt g S' (l.foldl Wire.stBool st).1 (l.foldl Wire.stBool st).2 w' ∧ Mv S S' w w' := by
  obtain ⟨i0, hi, hz0, hz1, hz2⟩ := info_parts info_byte
  generalize hn : l.length = n at *
  have Hn := Lib.hid hn; clear hn
  have HW := Lib.hid h; clear h
  have Hr := Lib.hid hr; clear hr
  have Hsafe := Lib.hid hsafe; clear hsafe
  go_enter Try.func39, Try.ntmps39
  go_wp2
  go_loopw [9] (fun i wr => ∃ (k : Nat) (s' : Wire.St) (S' : List Nat), k ≤ n ∧ i = .int .i64 k ∧ Hid (s' = (l.take k).foldl Wire.stBool st) ∧ Hid (WrAt g S' s'.1 s'.2 wr) ∧ Mv S S' w wr) (fun i _ => n - (intOf i).toNat)
  case atStart => exact ⟨0, st, S, Nat.zero_le _, rfl, rfl, HW.out, Mv.refl _ _⟩
  case round =>
    obtain ⟨k, s', S', hk, rfl, HS, HWr, hf⟩ := hrel
    have hsz := hf.size
    by_cases hlt : k < n
    · obtain ⟨ad, x, rfl, _, hsk, hc0⟩ := bool_at Hr.out hlt
      have hc : wr.cell? (ad.add k) = some (.bool x) := by
        rw [World.cell?_of_block (a := ad.add k) (w := w) (w' := wr) (by rw [block_of_add]; exact hf.block _ (Hsafe.out ad rfl (by omega)).2 (Hsafe.out ad rfl (by omega)).1)]; exact hc0
      have Hsk := Lib.hid hsk
      clear hsk hc0
      have hlen : s'.2.length ≤ 1000000000 := by
        have h1 := Wire.stBool_len st (l.take k)
        rw [← HS.out, List.length_take] at h1
        omega
      have c0 : wr.cell? ⟨g, 0, none⟩ = some (.int .i64 s'.1) := HWr.out.cell0
      by_cases he : s'.1 = 0
      · have hHe := Lib.hid he
        rw [he] at c0
        have HW0 : Hid (WrAt g S' 0 s'.2 wr) := by rw [← he]; exact HWr
        clear he
        have hlt1 := HW0.out.lt
        obtain ⟨sv, rfl, hbk, hown, hne⟩ := HW0.out
        have e1 : wr.cell? ⟨g, 1, none⟩ = some sv := by rw [Lib.cell_of_heap hbk]; rfl
        have Hbk := Lib.hid hbk; clear hbk
        have Hne := Lib.hid hne; clear hne
        have hbl : (Lib.byteCells s'.2).length ≤ 1000000000 := by rw [Lib.byteCells_length]; omega
        have Hstep : Hid ((l.take (k + 1)).foldl Wire.stBool st = (0, s'.2 ++ [if x then 1 else 0])) := by
          show _ = _
          rw [foldl_snoc _ _ Hsk.out, ← HS.out]
          simp only [Wire.stBool, hHe.out, if_true]
        cases x
        · go_wp2_with (first
            | (go_at_call 26; refine (wrong_any g 0 _ c0).mono ?_; rintro e w1 ⟨rfl, rfl⟩)
            | (at_builtin; refine wpList_append_any _ rfl _ _ 39 rfl 0 5 i0 (.int .u8 0) 1 1 Try.underlying39 hi hz0 hz1 hz2 rfl (by decide) _ _ _ rfl (hown.alloc _) (wr.heap.size + 1) (some ⟨wr.heap.size, 0, none⟩) 1 1 [.int .u8 0] rfl ?c1 ?c2 ?c3 ?c4 ?c5 ?_))
          case c1 => exact reads_newV wr _ _ _ rfl rfl rfl (Nat.lt_succ_self _)
          case c2 => simp [Value.oneCell']
          case c3 => unfold maxLen; omega
          case c4 => omega
          case c5 => omega
          intro v3 w3 hown3 hgrow3 hlink3
          obtain ⟨hb3, d0, d1, f1, hne3, hf3, ao, n', cap, rfl⟩ := WrAt.mid Hbk.out Hne.out (Below.heap_alloc wr _ _ hlt1) (by simp) hgrow3 hown3 (hlink3.imp id (fun h => ⟨_, h, by simp⟩)) (hf.alloc _)
          have Hne3 := Lib.hid hne3; clear hne3 hlink3
          have Hb3 := Lib.hid hb3; clear hb3
          have Hown3 := Lib.hid hown3; clear hown3
          clear hown hgrow3 hf
          go_wp2
          go_roundw
          case rel =>
            refine ⟨k + 1, _, _, by omega, by go_num, Hstep.out.symm, ?_, hf3.set_ (by simp) 1 _⟩
            show WrAt _ _ _ _ _
            exact WrAt.stored Hb3.out (by rw [Lib.byteCells_append]; exact Hown3.out) (by rw [Lib.byteCells_append, List.length_append]; rfl) Hne3.out
          case measure => simp [intOf]; omega
        · go_wp2_with (first
            | (go_at_call 26; refine (wrong_any g 0 _ c0).mono ?_; rintro e w1 ⟨rfl, rfl⟩)
            | (at_builtin; refine wpList_append_any _ rfl _ _ 39 rfl 0 5 i0 (.int .u8 0) 1 1 Try.underlying39 hi hz0 hz1 hz2 rfl (by decide) _ _ _ rfl (hown.alloc _) (wr.heap.size + 1) (some ⟨wr.heap.size, 0, none⟩) 1 1 [.int .u8 1] rfl ?d1 ?d2 ?d3 ?d4 ?d5 ?_))
          case d1 => exact reads_newV wr _ _ _ rfl rfl rfl (Nat.lt_succ_self _)
          case d2 => simp [Value.oneCell']
          case d3 => unfold maxLen; omega
          case d4 => omega
          case d5 => omega
          intro v3 w3 hown3 hgrow3 hlink3
          obtain ⟨hb3, d0, d1, f1, hne3, hf3, ao, n', cap, rfl⟩ := WrAt.mid Hbk.out Hne.out (Below.heap_alloc wr _ _ hlt1) (by simp) hgrow3 hown3 (hlink3.imp id (fun h => ⟨_, h, by simp⟩)) (hf.alloc _)
          have Hne3 := Lib.hid hne3; clear hne3 hlink3
          have Hb3 := Lib.hid hb3; clear hb3
          have Hown3 := Lib.hid hown3; clear hown3
          clear hown hgrow3 hf
          go_wp2
          go_roundw
          case rel =>
            refine ⟨k + 1, _, _, by omega, by go_num, Hstep.out.symm, ?_, hf3.set_ (by simp) 1 _⟩
            show WrAt _ _ _ _ _
            exact WrAt.stored Hb3.out (by rw [Lib.byteCells_append]; exact Hown3.out) (by rw [Lib.byteCells_append, List.length_append]; rfl) Hne3.out
          case measure => simp [intOf]; omega
      · have he' : (s'.1 != 0) = true := by simp [he]
        have Hfin : Hid (l.foldl Wire.stBool st = s') := by
          show _ = _
          conv => lhs; rw [← List.take_append_drop k l, List.foldl_append, ← HS.out, Wire.stBool_off he]
        have He := Lib.hid he; clear he
        go_wp2_with (go_at_call 26; refine (wrong_any g s'.1 _ c0).mono ?_; rintro e w1 ⟨rfl, rfl⟩)
        refine bodyPost_ret (results_none rfl _ _ _) rfl ?_
        exact ⟨rfl, _, by rw [Hfin.out]; exact HWr.out, hf⟩
    · go_wp2
      go_end0
      have h1 := HS.out
      rw [List.take_of_length_le (by have := Hn.out; omega)] at h1
      exact ⟨rfl, _, by rw [← h1]; exact HWr.out, hf⟩

set_option maxHeartbeats 400000 in
theorem bytes_ok (g : Nat) (S : List Nat) (bs : List UInt8) (w : World) (h : WrAt g S 0 bs w) :
    Calls Try.prog 21 #[.pointer (some ⟨g, 0, none⟩)] w fun r w' => r = .returned (.tuple #[.string ⟨bs.toArray⟩, .int .i64 0]) ∧ w = w' := by
  have c0 := h.cell0
  obtain ⟨sv, _, hbk, hown, hne⟩ := h
  have e1 : w.cell? ⟨g, 1, none⟩ = some sv := by rw [Lib.cell_of_heap hbk]; rfl
  rw [Lib.byteCells_length] at hown
  obtain ⟨ao, n, cap, rfl, hn⟩ : ∃ ao n cap, sv = .slice ao n cap ∧ bs.length = n := by
    rcases hown.2 with ⟨hv, h0⟩ | ⟨g', cap, cur, hv, _⟩
    · exact ⟨none, 0, 0, hv, h0⟩
    · exact ⟨_, _, _, hv, rfl⟩
  rw [hn] at hown
  have hcv := run_bytes_string (P := Try.prog) (c := cap) w Try.underlying39 Try.underlying5 Try.underlying9 hn (Reads.of_own hown)
  clear hbk hown hne hn
  go_enter Try.func21, Try.ntmps21
  go_wp2_with (go_at_call 26; refine (wrong_any g 0 _ c0).mono ?_; rintro e w1 ⟨rfl, rfl⟩)
  go_ret2
  exact ⟨rfl, rfl⟩

theorem bytes_err (g : Nat) (e : Int) (he : e ≠ 0) (w : World) (c0 : w.cell? ⟨g, 0, none⟩ = some (.int .i64 e)) :
    Calls Try.prog 21 #[.pointer (some ⟨g, 0, none⟩)] w fun r w' => r = .returned (.tuple #[.string ⟨#[]⟩, .int .i64 e]) ∧ w = w' := by
  have he' : (e != 0) = true := by simp [he]
  clear he
  go_enter Try.func21, Try.ntmps21
  go_wp2_with (go_at_call 26; refine (wrong_any g e _ c0).mono ?_; rintro e w1 ⟨rfl, rfl⟩)
  go_ret2
  exact ⟨rfl, rfl⟩

/-- What Bytes tells. -/
def bytesOf (st : Wire.St) : List UInt8 := if st.1 = 0 then st.2 else []
theorem bytes_any (g : Nat) (S : List Nat) (st : Wire.St) (w : World) (h : WrAt g S st.1 st.2 w) :
    Calls Try.prog 21 #[.pointer (some ⟨g, 0, none⟩)] w fun r w' => r = .returned (.tuple #[.string ⟨(bytesOf st).toArray⟩, .int .i64 st.1]) ∧ w = w' := by
  unfold bytesOf
  by_cases he : st.1 = 0
  · rw [he] at h ⊢
    rw [if_pos rfl]
    exact bytes_ok g S st.2 w h
  · rw [if_neg he]
    exact bytes_err g st.1 he w h.cell0

theorem wfail_any (g : Nat) (S : List Nat) (st : Wire.St) (x : Int) (w : World) (h : WrAt g S st.1 st.2 w) :
    Calls Try.prog 78 #[.pointer (some ⟨g, 0, none⟩), .int .i64 x] w fun r w' => r = .returned (.tuple #[]) ∧ ∃ S', WrAt g S' (Wire.stFail st x).1 (Wire.stFail st x).2 w' ∧ Mv S S' w w' := by
  refine (fail_any g st.1 x w h.cell0 (h.frozen 0)).mono ?_
  rintro r w' ⟨rfl, rfl⟩
  unfold Wire.stFail
  by_cases he : st.1 = 0
  · rw [if_pos he, if_pos he]
    exact ⟨rfl, _, h.setErr x, (Mv.refl _ _).set_ h.own 0 _⟩
  · rw [if_neg he, if_neg he]
    exact ⟨rfl, _, h, Mv.refl _ _⟩
end Go.Proofs.Ytkcecijepbceiaa
