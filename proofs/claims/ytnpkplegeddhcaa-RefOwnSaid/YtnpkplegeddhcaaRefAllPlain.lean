/-
  Records that are added one by one, and at once, in plain words.
  Conditions: as each lemma says.
-/
import Derived.Test.YtnpkplegeddhcaaRef5
namespace Go.Proofs.Ytnpkplegeddhcaa
open Go.RowKit Go.Maps

section
variable {α : Type} [Kd α] {valid : ByteArray → Bool} {most : Nat} {ahead behind : α → Int}
theorem outR_one (D : DataW Unit) (x : α) : outR valid most ahead behind D [x] = (stepR valid most ahead behind (0, D) x).2 := by
  unfold outR goR
  rw [List.foldl_cons, List.foldl_nil]
  by_cases h : errR valid most ahead behind D x = 0
  · rw [stepR_ok h]; rfl
  · rw [stepR_bad h, if_neg h]
theorem goR_succ {had : DataW Unit} {l : List α} {k : Nat} {x : α} (hx : l[k]? = some x) : goR valid most ahead behind had (l.take (k + 1)) = stepR valid most ahead behind (goR valid most ahead behind had (l.take k)) x := by
  unfold goR
  rw [take_snoc hx, List.foldl_append, List.foldl_cons, List.foldl_nil]
theorem goR_stop {had D : DataW Unit} {l : List α} {k : Nat} {f : Int} (hk : goR valid most ahead behind had (l.take k) = (f, D)) (hf : f ≠ 0) : goR valid most ahead behind had l = (f, D) := by
  unfold goR at hk ⊢
  have hsp : l = l.take k ++ l.drop k := (List.take_append_drop _ _).symm
  rw [hsp, List.foldl_append, hk, goR_off (by exact hf)]
theorem errR_zero {D : DataW Unit} {x : α} (h : errR valid most ahead behind D x = 0) : hasS D (Kd.key x) = false := by
  unfold errR at h
  split at h
  · cases h
  · split at h
    · exact absurd h (by assumption)
    · split at h
      · cases h
      · rename_i h3
        simpa using h3
theorem goR_size {l : List α} {D0 D : DataW Unit} (hg : GoodR α D0) (h : goR valid most ahead behind D0 l = (0, D)) : Maps.size D = Maps.size D0 + l.length := by
  unfold goR at h
  induction l generalizing D0 with
  | nil => cases h; rfl
  | cons x l ih =>
    rw [List.foldl_cons] at h
    by_cases he : errR valid most ahead behind D0 x = 0
    · rw [stepR_ok he] at h
      have h2 := ih (hg.put _ _) h
      rw [size_putR hg, errR_zero he] at h2
      simp at h2
      rw [List.length_cons]
      omega
    · rw [stepR_bad he, goR_off (by exact he)] at h
      injection h with h _
      exact absurd h he
end
end Go.Proofs.Ytnpkplegeddhcaa
