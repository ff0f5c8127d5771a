/-
  The book's LentTexts, StaysTexts as contracts.
  Conditions: lists of at most 9000; the lemmas' own premises.
-/
import Derived.Test.YtfmbadinfhpihaaGreatBuilder
set_option linter.unusedVariables false
set_option linter.unusedSimpArgs false
namespace Go.Proofs.YtfmbadinfhpihaaGreat.Bk
open Go.RowKit

theorem sameB_self' (a : List ByteArray) : sameB a a = true := by simp [sameB]
theorem lent_info_str : (Tryz.prog.info? 9).map (fun i => (i.zero, i.size, i.bytes)) = some (some (.string ⟨#[]⟩), 1, 16) := by kernel_rfl
theorem add_at (g n : Nat) : (⟨g, 0, none⟩ : Addr).add n = ⟨g, n, none⟩ := by
  unfold Addr.add; split
  · rename_i h; subst h; rfl
  · simp
def markS : ByteArray := ⟨#[109, 97, 114, 107]⟩
theorem markS_eq : (markS.toList == [109, 97, 114, 107]) = true := by kernel_rfl
theorem ownsRow_nil (w : World) (base : Nat) (e : TypeId) (size : Nat) : w.ownsRow base e size (.slice none 0 0) 0 [] := ⟨(Nat.zero_mul _).symm, .inl ⟨rfl, rfl⟩⟩

set_option maxHeartbeats 1000000 in
set_option maxRecDepth 100000 in
theorem lentT_any (l : List ByteArray) (A : Option Addr) (c : Nat) (w : World) (hr : Reads w w.heap.size 1 A l.length (strs l)) (hl : l.length ≤ 9000) :
    Calls Tryz.prog 34 #[.slice A l.length c] w fun e w' => ∃ g cap, e = .returned (.slice (some ⟨g, 0, none⟩) l.length cap) ∧ l.length + 1 ≤ cap ∧ cap ≤ 9223372036854775807 ∧ w.heap.size ≤ g ∧ g < w'.heap.size ∧ Reads w' w'.heap.size 1 (some ⟨g, 0, none⟩) (l.length + 1) (strs (l ++ [markS])) ∧ Below w.heap.size w w' ∧ ∃ cs, w'.heap[g]? = some (.cells cs 9 (0, 0)) := by
  obtain ⟨i0, hi, hz0, hz1, hz2⟩ := info_parts lent_info_str
  generalize hn : l.length = n at *
  have Hn := Lib.hid hn; clear hn
  have Hr := Lib.hid hr; clear hr
  go_enter Tryz.func34, Tryz.ntmps34
  go_wp2_with (at_builtin; refine wpList_append_any _ rfl _ _ 22 rfl w.heap.size 9 i0 (.string ⟨#[]⟩) 1 16 Tryz.underlying22 hi hz0 hz1 hz2 rfl (by decide) _ _ _ rfl (ownsRow_nil w w.heap.size _ 1) w.heap.size A n c (strs l) rfl ?c1 ?c2 ?c3 ?c4 ?c5 ?_)
  case c1 => exact Hr.out
  case c2 => simp [strs, Value.oneCell']
  case c3 => unfold maxLen; omega
  case c4 => omega
  case c5 => exact Nat.le_refl _
  intro v3 w3 hown3 hgrow3 hlink3
  have hm3 : Mv [] v3.ownBlock.toList w w3 := (Mv.refl [] w).grown hgrow3 (by intro k hk; simp [Value.ownBlock] at hk) (fun k hk => by
    rcases hlink3 with h | h
    · rw [h] at hk; simp [Value.ownBlock] at hk
    · rw [h] at hk; simp at hk; right; omega)
  have hz3 := hgrow3.size
  have HM3 := Lib.hid hm3
  clear hgrow3 hlink3 hm3
  go_wp2_with (at_builtin; refine wpList_append_any _ rfl _ _ 22 rfl w.heap.size 9 i0 (.string ⟨#[]⟩) 1 16 Tryz.underlying22 hi hz0 hz1 hz2 rfl (by decide) _ _ _ rfl (hown3.alloc _) (w3.heap.size + 1) (some ⟨w3.heap.size, 0, none⟩) 1 1 [.string markS] rfl ?d1 ?d2 ?d3 ?d4 ?d5 ?_)
  case d1 => exact reads_newV w3 _ _ _ rfl rfl rfl (Nat.lt_succ_self _)
  case d2 => simp [Value.oneCell']
  case d3 => unfold maxLen; omega
  case d4 => omega
  case d5 => simp; omega
  intro v4 w4 hown4 hgrow4 hlink4
  have hm4 : Mv [] v4.ownBlock.toList w w4 := (HM3.out.alloc _).grown hgrow4 (by intro k hk; simp [hk]) (fun k hk => by
    rcases hlink4 with h | h
    · rw [h] at hk; exact .inl hk
    · rw [h] at hk; simp at hk; right; simp; omega)
  have hb4 := hm4.below (B := w.heap.size) (by simp) (Nat.le_refl _)
  have HB4 := Lib.hid hb4
  clear hgrow4 hlink4 hm4 hb4 HM3 hown3
  obtain ⟨g, cap, cur, rfl, hbg, hh, hcap, hmax, _⟩ : ∃ g cap cur, v4 = .slice (some ⟨g, 0, none⟩) (n + 1) cap ∧ w.heap.size ≤ g ∧ w4.heap[g]? = some (.cells cur 9 (0, 0)) ∧ n + 1 ≤ cap ∧ cap ≤ maxLen ∧ True := by
    rcases hown4.2 with ⟨_, h0⟩ | ⟨g, cap, cur, h1, h2, h3, h4, h5, _⟩
    · omega
    · exact ⟨g, cap, cur, h1, h2, h3, h4, h5, trivial⟩
  unfold maxLen at hmax
  have HRD := Lib.hid (Reads.of_own hown4)
  have HG := Lib.hid (Blk.lt (t := 9) hh)
  have HH := Lib.hid hh
  clear hown4 hh
  go_wp2
  go_ret
  refine ⟨g, cap, rfl, hcap, hmax, hbg, HG.out, ?_, HB4.out, _, HH.out⟩
  have e : strs (l ++ [markS]) = strs l ++ [.string markS] := by simp [strs]
  rw [e]
  exact HRD.out
set_option maxHeartbeats 1000000 in
set_option maxRecDepth 100000 in
theorem staysT_any (l : List ByteArray) (g cap : Nat) (A : Option Addr) (c : Nat) (w : World) (hcap : l.length + 1 ≤ cap) (hr : Reads w w.heap.size 1 (some ⟨g, 0, none⟩) (l.length + 1) (strs (l ++ [markS]))) (hr' : Reads w w.heap.size 1 A l.length (strs l)) (hl : l.length ≤ 9000) (_ : cap ≤ 9223372036854775807) :
    Calls Tryz.prog 36 #[.slice (some ⟨g, 0, none⟩) l.length cap, .slice A l.length c] w fun e w' => e = .returned (.bool true) ∧ ∃ q, w' = w.drewN q := by
  have hfirst : Reads w w.heap.size 1 (some ⟨g, 0, none⟩) l.length (strs l) := by
    refine ⟨by simp [strs], fun _ => ?_⟩
    obtain ⟨ad, e, hb, hc⟩ := hr.2 (by omega)
    refine ⟨ad, e, hb, fun j u hu => hc j u ?_⟩
    have e2 : strs (l ++ [markS]) = strs l ++ [.string markS] := by simp [strs]
    rw [e2, List.getElem?_append_left (List.getElem?_eq_some_iff.1 hu).1]
    exact hu
  have hlast : w.cell? ((⟨g, 0, none⟩ : Addr).add l.length) = some (.string markS) := by
    obtain ⟨ad, e, hb, hc⟩ := hr.2 (by omega)
    injection e with e
    subst e
    refine hc l.length _ ?_
    have e2 : strs (l ++ [markS]) = strs l ++ [.string markS] := by simp [strs]
    have e3 : (strs l).length = l.length := by simp [strs]
    rw [e2, List.getElem?_append_right (by omega), e3]
    simp
  have HSM := same_any l l (some ⟨g, 0, none⟩) A cap c w.heap.size w hfirst hr' (by omega) (by omega)
  rw [sameB_self'] at HSM
  generalize hn : l.length = n at *
  have Hn := Lib.hid hn; clear hn
  clear hr hr' hfirst
  have hmk := markS_eq
  go_enter Tryz.func36, Tryz.ntmps36
  go_wp2_with fail
  refine HSM.mono ?_
  rintro e w1 ⟨rfl, q, rfl⟩
  clear HSM
  have hl2 : w.cell? ⟨g, n, none⟩ = some (.string markS) := by rw [← add_at g n]; exact hlast
  clear hlast
  go_wp2
  go_ret
  exact ⟨rfl, _, rfl⟩
end Go.Proofs.YtfmbadinfhpihaaGreat.Bk
