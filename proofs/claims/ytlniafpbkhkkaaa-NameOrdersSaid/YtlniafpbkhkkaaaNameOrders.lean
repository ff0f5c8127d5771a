/-
  NameOrders: the order goes on from text to text; sorting again, or in pieces, changes nothing.
  Conditions: texts, texts in a list that the call reads.
-/
import Derived.Test.YtlniafpbkhkkaaaOrdersPlain
import Derived.Test.YtlniafpbkhkkaaaName5b
namespace Go.Proofs.Ytlniafpbkhkkaaa
open Go.RowKit Go.Maps Go.Sort

theorem strs_one (ss : List ByteArray) : ∀ u ∈ strs ss, u.oneCell' = true := by
  intro u hu
  simp only [strs, List.mem_map] at hu
  obtain ⟨s, _, rfl⟩ := hu
  rfl
theorem strs_app (a b : List ByteArray) : strs a ++ strs b = strs (a ++ b) := by simp [strs]
theorem strs_take (l : List ByteArray) (k : Nat) : (strs l).take k = strs (l.take k) := by simp [strs, List.map_take]
theorem strs_drop (l : List ByteArray) (k : Nat) : (strs l).drop k = strs (l.drop k) := by simp [strs, List.map_drop]
theorem reads_take {w : World} {B n k : Nat} {A : Option Addr} {l : List ByteArray} (h : Reads w B 1 A n (strs l)) (hk : k ≤ n) : Reads w B 1 A k (strs (l.take k)) := by
  refine ⟨by rw [strs_len, List.length_take]; have := h.1; rw [strs_len] at this; omega, fun h0 => ?_⟩
  obtain ⟨ad, e, hb, hc⟩ := h.2 (by omega)
  refine ⟨ad, e, hb, fun j u hu => hc j u ?_⟩
  rw [← strs_take, List.getElem?_take] at hu
  split at hu
  · exact hu
  · cases hu
theorem reads_drop {w : World} {B n k : Nat} {A : Option Addr} {l : List ByteArray} (h : Reads w B 1 A n (strs l)) (hk : k ≤ n) : Reads w B 1 (A.map (·.add k)) (n - k) (strs (l.drop k)) := by
  refine ⟨by rw [strs_len, List.length_drop]; have := h.1; rw [strs_len] at this; omega, fun h0 => ?_⟩
  obtain ⟨ad, e, hb, hc⟩ := h.2 (by omega)
  refine ⟨ad.add k, by rw [e]; rfl, by rw [block_of_add]; exact hb, fun j u hu => ?_⟩
  rw [add_of_add]
  refine hc (k + j) u ?_
  rw [← strs_drop, List.getElem?_drop] at hu
  exact hu
/-- What the walk of NameOrders has at hand: sorting, at any world beyond. -/
theorem sort_at (l : List ByteArray) (n : Nat) (hn : l.length = n) (A : Option Addr) (cp : Nat) (w : World) (hD : n ≤ 1000000) (hr : Reads w w.heap.size 1 A n (strs l)) (hs : ∀ s ∈ l, s.size ≤ 281474976710656) :
    Calls Try.prog 11 #[.slice A n cp] w fun e w' => ∃ v : Value, e = .returned v ∧ w'.ownsRow w.heap.size 9 1 v (srt l).length (strs (srt l)) ∧ Below w.heap.size w w' := by
  subst hn
  exact sort_own l A cp w hD hr (fun h => reads_block hr h) hs

end Go.Proofs.Ytlniafpbkhkkaaa
