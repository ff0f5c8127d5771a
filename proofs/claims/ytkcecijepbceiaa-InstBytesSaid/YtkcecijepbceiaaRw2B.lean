/-
  The reference's writer as contracts: Text, Bool, Bytes, Fail.
  Conditions: a writer that the call has made; what it holds takes at most 10^9 bytes.
-/
import Derived.Test.YtkcecijepbceiaaRw1B
namespace Go.Proofs.Ytkcecijepbceiaa
open Go.RowKit

theorem RwAt.set_err (g : Nat) {S : List Nat} {e : Int} {bs : List UInt8} {w : World} (h : RwAt g S e bs w) (x : Int) : RwAt g S x bs (w.setCell ⟨g, 1, none⟩ (.int .i64 x)) ∧ Mv S S w (w.setCell ⟨g, 1, none⟩ (.int .i64 x)) := ⟨h.setErr x, (Mv.refl _ _).set_ h.own 1 _⟩
theorem rwfail_any (g : Nat) (S : List Nat) (st : Wire.St) (x : Int) (w : World) (h : RwAt g S st.1 st.2 w) :
    Calls Try.prog 79 #[.pointer (some ⟨g, 0, none⟩), .int .i64 x] w fun r w' => r = .returned (.tuple #[]) ∧ ∃ S', RwAt g S' (Wire.stFail st x).1 (Wire.stFail st x).2 w' ∧ Mv S S' w w' := by
  have c1 := h.cell1
  have f1 := h.frozen 1
  obtain ⟨e, bs⟩ := st
  have HO := Lib.hid (RwAt.set_err g h x)
  have H := Lib.hid h
  clear h
  by_cases he : e = 0
  · subst he
    go_enter Try.func79, Try.ntmps79
    go_wp2
    go_end0
    exact ⟨rfl, S, HO.out.1, HO.out.2⟩
  · have he' : (e == 0) = false := by simp [he]
    have hs : Hid (Wire.stFail (e, bs) x = (e, bs)) := by show _ = _; simp [Wire.stFail, he]
    go_enter Try.func79, Try.ntmps79
    go_wp2
    go_end0
    exact ⟨rfl, S, by rw [hs.out]; exact H.out, Mv.refl _ _⟩
theorem rwnum_any (g : Nat) (S : List Nat) (st : Wire.St) (v : Int) (h1 : -9223372036854775808 ≤ v) (h2 : v ≤ 9223372036854775807) (w : World) (h : RwAt g S st.1 st.2 w) (hN : st.2.length ≤ 1000000000) :
    Calls Try.prog 41 #[.pointer (some ⟨g, 0, none⟩), .int .i64 v] w fun r w' => r = .returned (.tuple #[]) ∧ ∃ S', RwAt g S' (Wire.stNum st v).1 (Wire.stNum st v).2 w' ∧ Mv S S' w w' := by
  by_cases he : st.1 = 0
  · have e : Wire.stNum st v = (0, Wire.wNum st.2 v) := by unfold Wire.stNum; rw [if_pos he]
    rw [e]
    rw [he] at h
    exact rwnum0_any g S st.2 v h1 h2 w h hN
  · have hs : Hid (Wire.stNum st v = st) := by show _ = _; unfold Wire.stNum; rw [if_neg he]
    have he' : (st.1 != 0) = true := by simp [he]
    have c1 := h.cell1
    have H := Lib.hid h
    clear h he
    go_enter Try.func41, Try.ntmps41
    go_wp2
    refine bodyPost_ret (results_none rfl _ _ _) rfl ?_
    exact ⟨rfl, S, by rw [hs.out]; exact H.out, Mv.refl _ _⟩

set_option maxHeartbeats 1000000 in
set_option maxRecDepth 100000 in
theorem rwtext_any (g : Nat) (S : List Nat) (st : Wire.St) (s : ByteArray) (hs : s.size ≤ 9223372036854775807) (w : World) (h : RwAt g S st.1 st.2 w) (hN : st.2.length ≤ 999990000) :
    Calls Try.prog 43 #[.pointer (some ⟨g, 0, none⟩), .string s] w fun r w' => r = .returned (.tuple #[]) ∧ ∃ S', RwAt g S' (Wire.stText st s.data.toList).1 (Wire.stText st s.data.toList).2 w' ∧ Mv S S' w w' := by
  obtain ⟨i0, hi, hz0, hz1, hz2⟩ := info_parts info_byte
  have c1 := h.cell1
  obtain ⟨e, bs⟩ := st
  have hN' : bs.length ≤ 999990000 := hN
  have H := Lib.hid h
  by_cases hbig : 1000 < s.size
  · have hst : Hid (Wire.stText (e, bs) s.data.toList = Wire.stFail (e, bs) 2 ∧ (Wire.stFail (e, bs) 2).1 ≠ 0) := by
      show _ ∧ _
      unfold Wire.stText Wire.stFail
      simp only [len_data, hbig, if_true]
      by_cases he : e = 0
      · simp [he]
      · simp [he]
    obtain ⟨st2, hst2⟩ : ∃ st2, Wire.stFail (e, bs) 2 = st2 := ⟨_, rfl⟩
    have hf := rwfail_any g S (e, bs) 2 w h
    rw [hst2] at hf hst
    have hne : (st2.1 == 0) = false := beq_false_of_ne hst.out.2
    have HF := Lib.hid hf
    clear hf h c1 hst2
    go_enter Try.func43, Try.ntmps43
    go_wp2_with fail
    refine HF.out.mono ?_
    rintro r w1 ⟨rfl, S1, hw1, hm1⟩
    have d1 := hw1.cell1
    have HW1 := Lib.hid hw1
    clear hw1
    go_wp2
    go_end0
    exact ⟨rfl, S1, by rw [hst.out.1]; exact HW1.out, hm1⟩
  · by_cases he : e = 0
    · subst he
      have hst : Hid (Wire.stText (0, bs) s.data.toList = (0, Wire.wNum bs s.size ++ s.data.toList)) := by
        show _ = _
        simp only [Wire.stText, if_true, len_data, if_neg hbig]
      have HF := Lib.hid (rwnum0_any g S bs s.size (by omega) (by omega) w h (by omega))
      have hl1 := Wire.wNum_len bs s.size
      clear h
      go_enter Try.func43, Try.ntmps43
      go_wp2_with fail
      refine HF.out.mono ?_
      rintro r w1 ⟨rfl, S1, hw1, hf1⟩
      have hlt1 := hw1.lt
      obtain ⟨sv, rfl, hbk, hown, hne⟩ := hw1
      have e1 : w1.cell? ⟨g, 0, none⟩ = some sv := by rw [Lib.cell_of_heap hbk]; rfl
      have Hbk := Lib.hid hbk; clear hbk
      have Hne := Lib.hid hne; clear hne
      have hbl : (Lib.byteCells (Wire.wNum bs s.size)).length ≤ 999999010 := by rw [Lib.byteCells_length]; omega
      clear c1 hl1 H
      go_wp2_with (at_builtin; refine wpList_append_string_link rfl _ _ 39 9 rfl 0 5 i0 Try.underlying39 Try.underlying9 hi hz0 hz1 hz2 _ _ _ rfl hown s rfl ?c3 ?c4 ?c5 ?_)
      case c3 => unfold maxLen; omega
      case c4 => omega
      case c5 => omega
      intro v3 w3 hown3 hgrow3 hlink3
      obtain ⟨hb3, d0, d1, f1, hne3, hf3, ao, n', cap, rfl⟩ := RwAt.mid Hbk.out Hne.out rfl (Nat.le_refl _) hgrow3 hown3 hlink3 hf1
      have Hne3 := Lib.hid hne3; clear hne3 hlink3
      have Hb3 := Lib.hid hb3; clear hb3
      have Hown3 := Lib.hid hown3; clear hown3
      clear hown hgrow3 hf1
      go_wp2
      go_end0
      refine ⟨rfl, _, ?_, hf3.set_ (by simp) 0 _⟩
      rw [hst.out]
      exact RwAt.stored Hb3.out (by rw [Lib.byteCells_append, ← Lib.strCells_eq]; exact Hown3.out) (by rw [Lib.byteCells_append, ← Lib.strCells_eq, List.length_append, Lib.strCells_length]) Hne3.out
    · have hst : Hid (Wire.stText (e, bs) s.data.toList = (e, bs)) := by show _ = _; unfold Wire.stText; rw [if_neg he]
      have he' : (e == 0) = false := by simp [he]
      clear h he
      go_enter Try.func43, Try.ntmps43
      go_wp2
      go_end0
      exact ⟨rfl, S, by rw [hst.out]; exact H.out, Mv.refl _ _⟩

set_option maxHeartbeats 1000000 in
set_option maxRecDepth 100000 in
theorem rwbool_any (g : Nat) (S : List Nat) (st : Wire.St) (x : Bool) (w : World) (h : RwAt g S st.1 st.2 w) (hN : st.2.length ≤ 1000000000) :
    Calls Try.prog 42 #[.pointer (some ⟨g, 0, none⟩), .bool x] w fun r w' => r = .returned (.tuple #[]) ∧ ∃ S', RwAt g S' (Wire.stBool st x).1 (Wire.stBool st x).2 w' ∧ Mv S S' w w' := by
  obtain ⟨i0, hi, hz0, hz1, hz2⟩ := info_parts info_byte
  have c1 := h.cell1
  obtain ⟨e, bs⟩ := st
  by_cases he : e = 0
  · subst he
    have hst : Hid (Wire.stBool (0, bs) x = (0, bs ++ [if x then 1 else 0])) := rfl
    have hlt1 := h.lt
    obtain ⟨sv, rfl, hbk, hown, hne⟩ := h
    have e1 : w.cell? ⟨g, 0, none⟩ = some sv := by rw [Lib.cell_of_heap hbk]; rfl
    have Hbk := Lib.hid hbk; clear hbk
    have Hne := Lib.hid hne; clear hne
    have hbl : (Lib.byteCells bs).length ≤ 1000000000 := by rw [Lib.byteCells_length]; exact hN
    cases x
    · go_enter Try.func42, Try.ntmps42
      go_wp2_with (at_builtin; refine wpList_append_any _ rfl _ _ 39 rfl 0 5 i0 (.int .u8 0) 1 1 Try.underlying39 hi hz0 hz1 hz2 rfl (by decide) _ _ _ rfl (hown.alloc _) (w.heap.size + 1) (some ⟨w.heap.size, 0, none⟩) 1 1 [.int .u8 0] rfl ?c1 ?c2 ?c3 ?c4 ?c5 ?_)
      case c1 => exact reads_newV w _ _ _ rfl rfl rfl (Nat.lt_succ_self _)
      case c2 => simp [Value.oneCell']
      case c3 => unfold maxLen; omega
      case c4 => omega
      intro v3 w3 hown3 hgrow3 hlink3
      obtain ⟨hb3, d0, d1, f1, hne3, hf3, ao, n', cap, rfl⟩ := RwAt.mid Hbk.out Hne.out (Below.heap_alloc w _ _ hlt1) (by simp) hgrow3 hown3 (hlink3.imp id (fun h => ⟨_, h, by simp⟩)) ((Mv.refl _ w).alloc _)
      have Hne3 := Lib.hid hne3; clear hne3 hlink3
      have Hb3 := Lib.hid hb3; clear hb3
      have Hown3 := Lib.hid hown3; clear hown3
      clear hown hgrow3 c1 e1
      go_wp2
      go_end0
      refine ⟨rfl, _, ?_, hf3.set_ (by simp) 0 _⟩
      rw [hst.out]
      exact RwAt.stored Hb3.out (by rw [Lib.byteCells_append]; exact Hown3.out) (by rw [Lib.byteCells_append, List.length_append]; rfl) Hne3.out
    · go_enter Try.func42, Try.ntmps42
      go_wp2_with (at_builtin; refine wpList_append_any _ rfl _ _ 39 rfl 0 5 i0 (.int .u8 0) 1 1 Try.underlying39 hi hz0 hz1 hz2 rfl (by decide) _ _ _ rfl (hown.alloc _) (w.heap.size + 1) (some ⟨w.heap.size, 0, none⟩) 1 1 [.int .u8 1] rfl ?d1 ?d2 ?d3 ?d4 ?d5 ?_)
      case d1 => exact reads_newV w _ _ _ rfl rfl rfl (Nat.lt_succ_self _)
      case d2 => simp [Value.oneCell']
      case d3 => unfold maxLen; omega
      case d4 => omega
      intro v3 w3 hown3 hgrow3 hlink3
      obtain ⟨hb3, d0, d1, f1, hne3, hf3, ao, n', cap, rfl⟩ := RwAt.mid Hbk.out Hne.out (Below.heap_alloc w _ _ hlt1) (by simp) hgrow3 hown3 (hlink3.imp id (fun h => ⟨_, h, by simp⟩)) ((Mv.refl _ w).alloc _)
      have Hne3 := Lib.hid hne3; clear hne3 hlink3
      have Hb3 := Lib.hid hb3; clear hb3
      have Hown3 := Lib.hid hown3; clear hown3
      clear hown hgrow3 c1 e1
      go_wp2
      go_end0
      refine ⟨rfl, _, ?_, hf3.set_ (by simp) 0 _⟩
      rw [hst.out]
      exact RwAt.stored Hb3.out (by rw [Lib.byteCells_append]; exact Hown3.out) (by rw [Lib.byteCells_append, List.length_append]; rfl) Hne3.out
  · have hst : Hid (Wire.stBool (e, bs) x = (e, bs)) := by show _ = _; unfold Wire.stBool; rw [if_neg he]
    have he' : (e != 0) = true := by simp [he]
    have H := Lib.hid h
    clear h he
    go_enter Try.func42, Try.ntmps42
    go_wp2
    refine bodyPost_ret (results_none rfl _ _ _) rfl ?_
    exact ⟨rfl, S, by rw [hst.out]; exact H.out, Mv.refl _ _⟩

theorem rwbytes_any (g : Nat) (S : List Nat) (st : Wire.St) (w : World) (h : RwAt g S st.1 st.2 w) :
    Calls Try.prog 22 #[.pointer (some ⟨g, 0, none⟩)] w fun r w' => r = .returned (.tuple #[.string ⟨(bytesOf st).toArray⟩, .int .i64 st.1]) ∧ ∃ q, w' = w.drewN q := by
  have c1 := h.cell1
  obtain ⟨e, bs⟩ := st
  by_cases he : e = 0
  · subst he
    obtain ⟨sv, _, hbk, hown, hne⟩ := h
    have e1 : w.cell? ⟨g, 0, none⟩ = some sv := by rw [Lib.cell_of_heap hbk]; rfl
    rw [Lib.byteCells_length] at hown
    obtain ⟨ao, n, cap, rfl, hn⟩ : ∃ ao n cap, sv = .slice ao n cap ∧ bs.length = n := by
      rcases hown.2 with ⟨hv, h0⟩ | ⟨g', cap, cur, hv, _⟩
      · exact ⟨none, 0, 0, hv, h0⟩
      · exact ⟨_, _, _, hv, rfl⟩
    rw [hn] at hown
    have hcv := run_bytes_string (P := Try.prog) (c := cap) w Try.underlying39 Try.underlying5 Try.underlying9 hn (Reads.of_own hown)
    clear hbk hown hne hn
    go_enter Try.func22, Try.ntmps22
    go_wp2
    go_ret2
    exact ⟨rfl, 0, rfl⟩
  · have he' : (e != 0) = true := by simp [he]
    have hb : bytesOf (e, bs) = [] := by unfold bytesOf; rw [if_neg he]
    rw [hb]
    clear h he hb
    go_enter Try.func22, Try.ntmps22
    go_wp2
    go_quiet (fail)
    go_wp2
    go_ret2
    exact ⟨rfl, _, rfl⟩
end Go.Proofs.Ytkcecijepbceiaa
