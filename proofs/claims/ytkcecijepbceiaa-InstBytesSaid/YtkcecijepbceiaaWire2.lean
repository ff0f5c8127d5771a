/-
  Package wire's writer as contracts: Num, Text, Bool of many, Bytes.
  Conditions: a writer that the call has made; what is put lies in memory that a writer does not write; what it holds in the end takes at most 10^9 bytes.
-/
import Derived.Test.YtkcecijepbceiaaWire1
import Derived.Lib.AppendStr
import Derived.WalkSpells
import Derived.WalkLawsBesides
namespace Go.Proofs.Ytkcecijepbceiaa
open Go.RowKit

theorem foldl_snoc {α β : Type} (f : β → α → β) (b : β) {l : List α} {k : Nat} {u : α} (h : l[k]? = some u) : (l.take (k + 1)).foldl f b = f ((l.take k).foldl f b) u := by
  rw [take_snoc h]; simp

set_option maxHeartbeats 1000000 in
set_option maxRecDepth 100000 in
theorem nums_any (g : Nat) (S : List Nat) (st : Wire.St) (l : List Int) (A : Option Addr) (c C : Nat) (w : World) (h : WrAt g S st.1 st.2 w)
    (hr : Reads w C 1 A l.length (ints l)) (hsafe : ∀ ad, A = some ad → 0 < l.length → ad.block ∉ S ∧ ad.block < w.heap.size) (hN : st.2.length + 10 * l.length ≤ 1000000000)
    (hv : ∀ v ∈ l, -9223372036854775808 ≤ v ∧ v ≤ 9223372036854775807) :
    Calls Try.prog 38 #[.pointer (some ⟨g, 0, none⟩), .slice A l.length c] w fun r w' => r = .returned (.tuple #[]) ∧ ∃ S', WrAt g S' (l.foldl Wire.stNum st).1 (l.foldl Wire.stNum st).2 w' ∧ Mv S S' w w' := by
  generalize hn : l.length = n at *
  have Hn := Lib.hid hn; clear hn
  have Hv := Lib.hid hv; clear hv
  have HW := Lib.hid h; clear h
  have Hr := Lib.hid hr; clear hr
  have Hsafe := Lib.hid hsafe; clear hsafe
  go_enter Try.func38, Try.ntmps38
  go_wp2
  go_loopw [8] (fun i wr => ∃ (k : Nat) (s' : Wire.St) (S' : List Nat), k ≤ n ∧ i = .int .i64 k ∧ Hid (s' = (l.take k).foldl Wire.stNum st) ∧ Hid (WrAt g S' s'.1 s'.2 wr) ∧ Mv S S' w wr) (fun i _ => n - (intOf i).toNat)
  case atStart => exact ⟨0, st, S, Nat.zero_le _, rfl, rfl, HW.out, Mv.refl _ _⟩
  case round =>
    obtain ⟨k, s', S', hk, rfl, HS, HWr, hf⟩ := hrel
    have hsz := hf.size
    by_cases hlt : k < n
    · obtain ⟨ad, v, rfl, _, hvk, hc0⟩ := int_at Hr.out hlt
      have hc : wr.cell? (ad.add k) = some (.int .i64 v) := by
        rw [World.cell?_of_block (a := ad.add k) (w := w) (w' := wr) (by rw [block_of_add]; exact hf.block _ (Hsafe.out ad rfl (by omega)).2 (Hsafe.out ad rfl (by omega)).1)]; exact hc0
      have hv12 := Hv.out v (List.mem_of_getElem? hvk)
      have Hvk := Lib.hid hvk; clear hvk hc0
      have hlen : s'.2.length ≤ 1000000000 := by
        have h1 := Wire.stNum_len st (l.take k)
        rw [← HS.out, List.length_take] at h1
        omega
      have c0 : wr.cell? ⟨g, 0, none⟩ = some (.int .i64 s'.1) := HWr.out.cell0
      by_cases he : s'.1 = 0
      · have Hstep : Hid ((l.take (k + 1)).foldl Wire.stNum st = (0, Wire.wNum s'.2 v)) := by
          show _ = _
          rw [foldl_snoc _ _ Hvk.out, ← HS.out]; simp [Wire.stNum, he]
        rw [he] at c0
        have HW0 : Hid (WrAt g S' 0 s'.2 wr) := by rw [← he]; exact HWr
        have He := Lib.hid he; clear he
        go_wp2_with (first
          | (go_at_call 26; refine (wrong_any g 0 _ c0).mono ?_; rintro e w1 ⟨rfl, rfl⟩)
          | (go_at_call 77; refine (num_any g S' 0 s'.2 v hv12.1 hv12.2 _ HW0.out hlen).mono ?_; rintro e w1 ⟨rfl, S1, hw1, hf1⟩))
        have Hw1 := Lib.hid hw1; clear hw1
        go_roundw
        case rel => exact ⟨k + 1, _, _, by omega, by go_num, Hstep.out.symm, Hw1.out, hf.trans hf1⟩
        case measure => simp [intOf]; omega
      · have he' : (s'.1 != 0) = true := by simp [he]
        have Hfin : Hid (l.foldl Wire.stNum st = s') := by
          show _ = _
          conv => lhs; rw [← List.take_append_drop k l, List.foldl_append, ← HS.out, Wire.stNum_off he]
        have He := Lib.hid he; clear he
        go_wp2_with (go_at_call 26; refine (wrong_any g s'.1 _ c0).mono ?_; rintro e w1 ⟨rfl, rfl⟩)
        refine bodyPost_ret (results_none rfl _ _ _) rfl ?_
        exact ⟨rfl, _, by rw [Hfin.out]; exact HWr.out, hf⟩
    · go_wp2
      go_end0
      have h1 := HS.out
      rw [List.take_of_length_le (by have := Hn.out; omega)] at h1
      exact ⟨rfl, _, by rw [← h1]; exact HWr.out, hf⟩

set_option maxHeartbeats 1000000 in
set_option maxRecDepth 100000 in
theorem texts_any (g : Nat) (S : List Nat) (st : Wire.St) (l : List ByteArray) (A : Option Addr) (c C : Nat) (w : World) (h : WrAt g S st.1 st.2 w)
    (hr : Reads w C 1 A l.length (strs l)) (hsafe : ∀ ad, A = some ad → 0 < l.length → ad.block ∉ S ∧ ad.block < w.heap.size) (hN : st.2.length + 1010 * l.length ≤ 1000000000)
    (hv : ∀ s ∈ l, s.size ≤ 9223372036854775807) :
    Calls Try.prog 40 #[.pointer (some ⟨g, 0, none⟩), .slice A l.length c] w fun r w' => r = .returned (.tuple #[]) ∧ ∃ S', WrAt g S' ((l.map (·.data.toList)).foldl Wire.stText st).1 ((l.map (·.data.toList)).foldl Wire.stText st).2 w' ∧ Mv S S' w w' := by
  obtain ⟨i0, hi, hz0, hz1, hz2⟩ := info_parts info_byte
  generalize hn : l.length = n at *
  have Hn := Lib.hid hn; clear hn
  have Hv := Lib.hid hv; clear hv
  have HW := Lib.hid h; clear h
  have Hr := Lib.hid hr; clear hr
  have Hsafe := Lib.hid hsafe; clear hsafe
  go_enter Try.func40, Try.ntmps40
  go_wp2
  go_loopw [8] (fun i wr => ∃ (k : Nat) (s' : Wire.St) (S' : List Nat), k ≤ n ∧ i = .int .i64 k ∧ Hid (s' = ((l.map (·.data.toList)).take k).foldl Wire.stText st) ∧ Hid (WrAt g S' s'.1 s'.2 wr) ∧ Mv S S' w wr) (fun i _ => n - (intOf i).toNat)
  case atStart => exact ⟨0, st, S, Nat.zero_le _, rfl, rfl, HW.out, Mv.refl _ _⟩
  case round =>
    obtain ⟨k, s', S', hk, rfl, HS, HWr, hf⟩ := hrel
    have hsz := hf.size
    by_cases hlt : k < n
    · obtain ⟨ad, s, rfl, _, hsk, hc0⟩ := str_at Hr.out hlt
      have hc : wr.cell? (ad.add k) = some (.string s) := by
        rw [World.cell?_of_block (a := ad.add k) (w := w) (w' := wr) (by rw [block_of_add]; exact hf.block _ (Hsafe.out ad rfl (by omega)).2 (Hsafe.out ad rfl (by omega)).1)]; exact hc0
      have hss := Hv.out s (List.mem_of_getElem? hsk)
      have Hsk : Hid ((l.map (·.data.toList))[k]? = some s.data.toList) := by show _ = _; simp [hsk]
      clear hsk hc0
      have hlen : s'.2.length ≤ 999999000 := by
        have h1 := Wire.stText_len st ((l.map (·.data.toList)).take k)
        rw [← HS.out, List.length_take] at h1
        omega
      have c0 : wr.cell? ⟨g, 0, none⟩ = some (.int .i64 s'.1) := HWr.out.cell0
      by_cases he : s'.1 = 0
      · have hHe := Lib.hid he
        rw [he] at c0
        have HW0 : Hid (WrAt g S' 0 s'.2 wr) := by rw [← he]; exact HWr
        clear he
        by_cases hbig : 1000 < s.size
        · have hfz := HW0.out.frozen 0
          have Hfin : Hid ((l.map (·.data.toList)).foldl Wire.stText st = (2, s'.2)) := by
            show _ = _
            conv => lhs; rw [← List.take_append_drop (k + 1) (l.map (·.data.toList)), List.foldl_append, foldl_snoc _ _ Hsk.out, ← HS.out]
            rw [show Wire.stText s' s.data.toList = (2, s'.2) from by simp [Wire.stText, hHe.out, hbig]]
            exact Wire.stText_off (show (2 : Int) ≠ 0 by decide) _
          have Hout := HW0.out.setErr 2
          have HO := Lib.hid Hout; clear Hout
          go_wp2_with (first
            | (go_at_call 26; refine (wrong_any g 0 _ c0).mono ?_; rintro e w1 ⟨rfl, rfl⟩)
            | (go_at_call 78; refine (fail_any g 0 2 _ c0 hfz).mono ?_; rw [if_pos rfl]; rintro e w1 ⟨rfl, rfl⟩))
          refine bodyPost_ret (results_none rfl _ _ _) rfl ?_
          exact ⟨rfl, _, by rw [Hfin.out]; exact HO.out, hf.set_ HW0.out.own 0 _⟩
        · have Hstep : Hid (((l.map (·.data.toList)).take (k + 1)).foldl Wire.stText st = (0, Wire.wNum s'.2 s.size ++ s.data.toList)) := by
            show _ = _
            rw [foldl_snoc _ _ Hsk.out, ← HS.out]
            simp only [Wire.stText, hHe.out, if_true, len_data, if_neg hbig]
          go_wp2_with (go_at_call 26; refine (wrong_any g 0 _ c0).mono ?_; rintro e w1 ⟨rfl, rfl⟩)
          refine (num_any g S' 0 s'.2 s.size (by omega) (by omega) _ HW0.out (by omega)).mono ?_
          rintro e w1 ⟨rfl, S1, hw1, hf1⟩
          have hf2 := hf.trans hf1
          have hy0 := hf1.size
          have hy1 := hf2.size
          have hl1 := Wire.wNum_len s'.2 s.size
          have hlt1 := hw1.lt
          obtain ⟨sv, rfl, hbk, hown, hne⟩ := hw1
          have e1 : w1.cell? ⟨g, 1, none⟩ = some sv := by rw [Lib.cell_of_heap hbk]; rfl
          have Hbk := Lib.hid hbk; clear hbk
          have Hne := Lib.hid hne; clear hne
          have hbl : (Lib.byteCells (Wire.wNum s'.2 s.size)).length ≤ 999999010 := by rw [Lib.byteCells_length]; omega
          clear hf hf1 c0 hc hl1
          go_wp2_with (at_builtin; refine wpList_append_string_link rfl _ _ 39 9 rfl 0 5 i0 Try.underlying39 Try.underlying9 hi hz0 hz1 hz2 _ _ _ rfl hown s rfl ?c3 ?c4 ?c5 ?_)
          case c3 => unfold maxLen; omega
          case c4 => omega
          case c5 => omega
          intro v3 w3 hown3 hgrow3 hlink3
          obtain ⟨hb3, d0, d1, f1, hne3, hf3, ao, n', cap, rfl⟩ := WrAt.mid Hbk.out Hne.out rfl (Nat.le_refl _) hgrow3 hown3 hlink3 hf2
          have Hne3 := Lib.hid hne3; clear hne3 hlink3
          have Hb3 := Lib.hid hb3; clear hb3
          have Hown3 := Lib.hid hown3; clear hown3
          clear hown hgrow3 hf2
          go_wp2
          go_roundw
          case rel =>
            refine ⟨k + 1, _, _, by omega, by go_num, Hstep.out.symm, ?_, hf3.set_ (by simp) 1 _⟩
            show WrAt _ _ _ _ _
            exact WrAt.stored Hb3.out (by rw [Lib.byteCells_append, ← Lib.strCells_eq]; exact Hown3.out) (by rw [Lib.byteCells_append, ← Lib.strCells_eq, List.length_append, Lib.strCells_length]) Hne3.out
          case measure => simp [intOf]; omega
      · have he' : (s'.1 != 0) = true := by simp [he]
        have Hfin : Hid ((l.map (·.data.toList)).foldl Wire.stText st = s') := by
          show _ = _
          conv => lhs; rw [← List.take_append_drop k (l.map (·.data.toList)), List.foldl_append, ← HS.out, Wire.stText_off he]
        have He := Lib.hid he; clear he
        go_wp2_with (go_at_call 26; refine (wrong_any g s'.1 _ c0).mono ?_; rintro e w1 ⟨rfl, rfl⟩)
        refine bodyPost_ret (results_none rfl _ _ _) rfl ?_
        exact ⟨rfl, _, by rw [Hfin.out]; exact HWr.out, hf⟩
    · go_wp2
      go_end0
      have h1 := HS.out
      rw [List.take_of_length_le (by rw [List.length_map]; have := Hn.out; omega)] at h1
      exact ⟨rfl, _, by rw [← h1]; exact HWr.out, hf⟩
end Go.Proofs.Ytkcecijepbceiaa
