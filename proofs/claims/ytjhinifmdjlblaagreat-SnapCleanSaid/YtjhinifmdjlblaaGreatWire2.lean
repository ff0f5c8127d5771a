/-
  Package wire's writer as contracts: Num, Text, Bool of many, Bytes.
  Conditions: a writer that the call has made; what is put lies in memory that a writer does not write; what it holds in the end takes at most 10^9 bytes.
-/
import Derived.Test.YtjhinifmdjlblaaGreatWire1
import Derived.Lib.AppendStr
import Derived.WalkSpells
import Derived.WalkLawsBesides
namespace Go.Proofs.YtjhinifmdjlblaaGreat.Wi
open Go.RowKit

theorem foldl_snoc {α β : Type} (f : β → α → β) (b : β) {l : List α} {k : Nat} {u : α} (h : l[k]? = some u) : (l.take (k + 1)).foldl f b = f ((l.take k).foldl f b) u := by
  rw [take_snoc h]; simp

set_option maxHeartbeats 1000000 in
set_option maxRecDepth 100000 in
theorem nums_any (g : Nat) (S : List Nat) (st : Wire.St) (l : List Int) (A : Option Addr) (c C : Nat) (w : World) (h : WrAt g S st.1 st.2 w)
    (hr : Reads w C 1 A l.length (ints l)) (hsafe : ∀ ad, A = some ad → 0 < l.length → ad.block ∉ S ∧ ad.block < w.heap.size) (hN : st.2.length + 10 * l.length ≤ 1000000000)
    (hv : ∀ v ∈ l, -9223372036854775808 ≤ v ∧ v ≤ 9223372036854775807) :
    Calls Tryz.prog 105 #[.pointer (some ⟨g, 0, none⟩), .slice A l.length c] w fun r w' => r = .returned (.tuple #[]) ∧ ∃ S', WrAt g S' (l.foldl Wire.stNum st).1 (l.foldl Wire.stNum st).2 w' ∧ Mv S S' w w' := by
  generalize hn : l.length = n at *
  have Hn := Lib.hid hn; clear hn
  have Hv := Lib.hid hv; clear hv
  have HW := Lib.hid h; clear h
  have Hr := Lib.hid hr; clear hr
  have Hsafe := Lib.hid hsafe; clear hsafe
  go_enter Tryz.func105, Tryz.ntmps105
  go_wp2
  go_loopw [8] (fun i wr => ∃ (k : Nat) (s' : Wire.St) (S' : List Nat), k ≤ n ∧ i = .int .i64 k ∧ Hid (s' = (l.take k).foldl Wire.stNum st) ∧ Hid (WrAt g S' s'.1 s'.2 wr) ∧ Mv S S' w wr) (fun i _ => n - (intOf i).toNat)
  case atStart => exact ⟨0, st, S, Nat.zero_le _, rfl, rfl, HW.out, Mv.refl _ _⟩
  case round =>
    obtain ⟨k, s', S', hk, rfl, HS, HWr, hf⟩ := hrel
    have hsz := hf.size
    by_cases hlt : k < n
    · obtain ⟨ad, v, rfl, _, hvk, hc0⟩ := int_at Hr.out hlt
      have hc : wr.cell? (ad.add k) = some (.int .i64 v) := by
        rw [World.cell?_of_block (a := ad.add k) (w := w) (w' := wr) (by rw [block_of_add]; exact hf.block _ (Hsafe.out ad rfl (by omega)).2 (Hsafe.out ad rfl (by omega)).1)]; exact hc0
      have hv12 := Hv.out v (List.mem_of_getElem? hvk)
      have Hvk := Lib.hid hvk; clear hvk hc0
      have hlen : s'.2.length ≤ 1000000000 := by
        have h1 := Wire.stNum_len st (l.take k)
        rw [← HS.out, List.length_take] at h1
        omega
      have c0 : wr.cell? ⟨g, 0, none⟩ = some (.int .i64 s'.1) := HWr.out.cell0
      by_cases he : s'.1 = 0
      · have Hstep : Hid ((l.take (k + 1)).foldl Wire.stNum st = (0, Wire.wNum s'.2 v)) := by
          show _ = _
          rw [foldl_snoc _ _ Hvk.out, ← HS.out]; simp [Wire.stNum, he]
        rw [he] at c0
        have HW0 : Hid (WrAt g S' 0 s'.2 wr) := by rw [← he]; exact HWr
        have He := Lib.hid he; clear he
        go_wp2_with (first
          | (go_at_call 119; refine (wrong_any g 0 _ c0).mono ?_; rintro e w1 ⟨rfl, rfl⟩)
          | (go_at_call 120; refine (num_any g S' 0 s'.2 v hv12.1 hv12.2 _ HW0.out hlen).mono ?_; rintro e w1 ⟨rfl, S1, hw1, hf1⟩))
        have Hw1 := Lib.hid hw1; clear hw1
        go_roundw
        case rel => exact ⟨k + 1, _, _, by omega, by go_num, Hstep.out.symm, Hw1.out, hf.trans hf1⟩
        case measure => simp [intOf]; omega
      · have he' : (s'.1 != 0) = true := by simp [he]
        have Hfin : Hid (l.foldl Wire.stNum st = s') := by
          show _ = _
          conv => lhs; rw [← List.take_append_drop k l, List.foldl_append, ← HS.out, Wire.stNum_off he]
        have He := Lib.hid he; clear he
        go_wp2_with (go_at_call 119; refine (wrong_any g s'.1 _ c0).mono ?_; rintro e w1 ⟨rfl, rfl⟩)
        refine bodyPost_ret (results_none rfl _ _ _) rfl ?_
        exact ⟨rfl, _, by rw [Hfin.out]; exact HWr.out, hf⟩
    · go_wp2
      go_end0
      have h1 := HS.out
      rw [List.take_of_length_le (by have := Hn.out; omega)] at h1
      exact ⟨rfl, _, by rw [← h1]; exact HWr.out, hf⟩

end Go.Proofs.YtjhinifmdjlblaaGreat.Wi
