/-
  Chapter 2's short as a contract.
  Conditions: texts within what a slice and a string may have.
-/
import Derived.Test.YtlniafpbkhkkaaaGreatName7
import Derived.Test.YtlniafpbkhkkaaaGreatShort
import Derived.Test.YtlniafpbkhkkaaaGreatSameT
namespace Go.Proofs.YtlniafpbkhkkaaaGreat
open Go.RowKit Go.Maps Go.Sort

theorem info_str1 : (Tryz.prog.info? 9).map (fun i => (i.zero, i.size, i.bytes)) = some (some (.string ⟨#[]⟩), 1, 16) := by kernel_rfl
theorem total_mem {ss : List ByteArray} {s : ByteArray} (h : s ∈ ss) : s.size ≤ total ss := by
  unfold total
  induction ss with
  | nil => cases h
  | cons x r ih =>
    simp only [List.map_cons, List.sum_cons]
    rcases List.mem_cons.1 h with rfl | h
    · omega
    · have := ih h; omega
theorem short_yes {few rm : Nat} {ss : List ByteArray} (h : shortB few rm ss = true) : ss.length ≤ few ∧ ∀ s ∈ ss, s.size ≤ rm := by
  unfold shortB at h
  have h1 := of_decide_eq_true h
  exact ⟨h1.1, fun s hs => Nat.le_trans (total_mem hs) h1.2⟩
theorem short2_any (ss : List ByteArray) (A : Option Addr) (c : Nat) (w : World) (hr : Reads w w.heap.size 1 A ss.length (strs ss)) (hl : ss.length ≤ 9223372036854775807) (hs : ∀ s ∈ ss, s.size ≤ 9223372036854775807) :
    Calls Tryz.prog 5 #[.slice A ss.length c] w fun e w' => e = .returned (.bool (shortB 300 9000 ss)) ∧ Below w.heap.size w w' := by
  have h := fun c => short_any 300 9000 (by decide) (by decide) ss A c w hr hl hs
  obtain ⟨n, hn⟩ : ∃ n, ss.length = n := ⟨_, rfl⟩
  obtain ⟨b, hb⟩ : ∃ b, shortB 300 9000 ss = b := ⟨_, rfl⟩
  rw [hb]
  rw [hb, hn] at h
  rw [hn]
  have H := fun c => Lib.hid (h c)
  clear h hr hl hs hn hb
  go_enter Tryz.func5, Tryz.ntmps5
  go_wp2_with fail
  refine (H c).out.mono ?_
  rintro e w1 ⟨rfl, hb1⟩
  have HB := Lib.hid hb1
  clear hb1
  go_wp2
  go_ret
  exact ⟨rfl, HB.out⟩

end Go.Proofs.YtlniafpbkhkkaaaGreat
