/-
  What a writer holds behind numbers, texts and truths, and how a reader finds it again: a law on lists of bytes.
  Conditions: numbers of 64 bits.
-/
import Derived.Test.YtkcecijepbceiaaWire8B
namespace Go.Proofs.Ytkcecijepbceiaa
namespace Wire
def flatN (l : List Int) : Bs := (l.map fun v => enc (zz v)).flatten
def flatT (l : List Bs) : Bs := (l.map fun s => enc (zz s.length) ++ s).flatten
def flatB (l : List Bool) : Bs := l.map fun x => if x then 1 else 0
abbrev Op3 := List Int × List Bs × List Bool
def stOp (st : St) (x : Op3) : St := x.2.2.foldl stBool (x.2.1.foldl stText (x.1.foldl stNum st))
def flat3 (x : Op3) : Bs := flatN x.1 ++ (flatT x.2.1 ++ flatB x.2.2)
def flatAll (l : List Op3) : Bs := (l.map flat3).flatten
theorem stText_two (l : List Bs) : ∀ b : Bs, (l.foldl stText ((0, b) : St)).1 = 2 ∨ (l.foldl stText ((0, b) : St) = (0, b ++ flatT l) ∧ ∀ t ∈ l, t.length ≤ 1000) := by
  induction l with
  | nil => intro b; exact .inr ⟨by simp [flatT], by simp⟩
  | cons t l ih =>
    intro b
    simp only [List.foldl_cons]
    by_cases ht : 1000 < t.length
    · have e : stText (0, b) t = (2, b) := by simp [stText, ht]
      rw [e, stText_off (st := (2, b)) (fun h => absurd h (by decide : ¬ (2 : Int) = 0))]
      exact .inl rfl
    · have e : stText (0, b) t = (0, wNum b t.length ++ t) := by simp [stText, ht]
      rw [e]
      refine (ih _).imp id fun h => ⟨?_, ?_⟩
      · rw [h.1]; simp [flatT, wNum]
      · intro u hu
        rcases List.mem_cons.1 hu with rfl | hu
        · omega
        · exact h.2 u hu
theorem stBool_ok (l : List Bool) : ∀ b : Bs, l.foldl stBool ((0, b) : St) = (0, b ++ flatB l) := by
  induction l with
  | nil => intro b; simp [flatB]
  | cons x l ih =>
    intro b
    simp only [List.foldl_cons]
    have e : stBool (0, b) x = (0, b ++ [if x then 1 else 0]) := rfl
    rw [e, ih]
    simp [flatB]
theorem stOp_two (b : Bs) (x : Op3) : (stOp (0, b) x).1 = 2 ∨ (stOp (0, b) x = (0, b ++ flat3 x) ∧ ∀ t ∈ x.2.1, t.length ≤ 1000) := by
  unfold stOp
  rw [stNum_ok, wNums_eq]
  rcases stText_two x.2.1 (b ++ (x.1.map fun v => enc (zz v)).flatten) with h | ⟨h, h'⟩
  · left
    rw [stBool_off (by rw [h]; decide)]
    exact h
  · right
    rw [h, stBool_ok]
    exact ⟨by simp [flat3, flatN], h'⟩
theorem stOp_off {st : St} (h : st.1 ≠ 0) (x : Op3) : stOp st x = st := by
  unfold stOp
  rw [stNum_off h, stText_off h, stBool_off h]
theorem stOps_off {st : St} (h : st.1 ≠ 0) (l : List Op3) : l.foldl stOp st = st := by
  induction l with
  | nil => rfl
  | cons x l ih => simp only [List.foldl_cons]; rw [stOp_off h]; exact ih
theorem stOps_two (l : List Op3) : ∀ b : Bs, (l.foldl stOp ((0, b) : St)).1 = 2 ∨ (l.foldl stOp ((0, b) : St) = (0, b ++ flatAll l) ∧ ∀ x ∈ l, ∀ t ∈ x.2.1, t.length ≤ 1000) := by
  induction l with
  | nil => intro b; exact .inr ⟨by simp [flatAll], by simp⟩
  | cons x l ih =>
    intro b
    simp only [List.foldl_cons]
    rcases stOp_two b x with h | ⟨h, h'⟩
    · left
      rw [stOps_off (by rw [h]; decide)]
      exact h
    · rw [h]
      refine (ih _).imp id fun g => ⟨?_, ?_⟩
      · rw [g.1]; simp [flatAll]
      · intro y hy
        rcases List.mem_cons.1 hy with rfl | hy
        · exact h'
        · exact g.2 y hy
theorem stOp_len (st : St) (x : Op3) : (stOp st x).2.length ≤ st.2.length + 10 * x.1.length + 1010 * x.2.1.length + x.2.2.length := by
  unfold stOp
  have h1 := stNum_len st x.1
  have h2 := stText_len (x.1.foldl stNum st) x.2.1
  have h3 := stBool_len (x.2.1.foldl stText (x.1.foldl stNum st)) x.2.2
  omega
theorem flatAll_drop {l : List Op3} {k : Nat} {x : Op3} (h : l[k]? = some x) : flatAll (l.drop k) = flatN x.1 ++ (flatT x.2.1 ++ (flatB x.2.2 ++ flatAll (l.drop (k + 1)))) := by
  obtain ⟨hk, e⟩ := List.getElem?_eq_some_iff.1 h
  rw [List.drop_eq_getElem_cons hk, e]
  simp [flatAll, flat3]
theorem flatN_drop {l : List Int} {k : Nat} {x : Int} (h : l[k]? = some x) : flatN (l.drop k) = enc (zz x) ++ flatN (l.drop (k + 1)) := by
  obtain ⟨hk, e⟩ := List.getElem?_eq_some_iff.1 h
  rw [List.drop_eq_getElem_cons hk, e]
  simp [flatN]
theorem flatT_drop {l : List Bs} {k : Nat} {x : Bs} (h : l[k]? = some x) : flatT (l.drop k) = enc (zz x.length) ++ (x ++ flatT (l.drop (k + 1))) := by
  obtain ⟨hk, e⟩ := List.getElem?_eq_some_iff.1 h
  rw [List.drop_eq_getElem_cons hk, e]
  simp [flatT]
theorem flatB_drop {l : List Bool} {k : Nat} {x : Bool} (h : l[k]? = some x) : flatB (l.drop k) = (if x then 1 else 0) :: flatB (l.drop (k + 1)) := by
  obtain ⟨hk, e⟩ := List.getElem?_eq_some_iff.1 h
  rw [List.drop_eq_getElem_cons hk, e]
  simp [flatB]
end Wire

/-- A reader's place, and what lies there. -/
def Rest (s : ByteArray) (k : Nat) (R : List UInt8) : Prop := k ≤ s.size ∧ s.data.toList.drop k = R
theorem Rest.len {s : ByteArray} {k : Nat} {R : List UInt8} (h : Rest s k R) : R.length + k = s.size := by
  have h2 := congrArg List.length h.2
  have h1 := h.1
  have e : s.data.toList.length = s.size := Array.length_toList
  rw [List.length_drop, e] at h2
  omega
theorem Rest.skip {s : ByteArray} {k : Nat} {A R : List UInt8} (h : Rest s k (A ++ R)) : Rest s (k + A.length) R := by
  have hl := h.len
  rw [List.length_append] at hl
  refine ⟨by omega, ?_⟩
  rw [← List.drop_drop, h.2, List.drop_left]
theorem Rest.nil {s : ByteArray} {k : Nat} (h : Rest s k []) : k = s.size := by have := h.len; simpa using this
theorem rest_num {s : ByteArray} {k : Nat} {v : Int} {R : List UInt8} (h1 : -9223372036854775808 ≤ v) (h2 : v ≤ 9223372036854775807) (h : Rest s k (Wire.enc (Wire.zz v) ++ R)) :
    ∃ k', numTells s k = (v, k', 0) ∧ Rest s k' R := by
  have hd := Wire.dec_enc0 (Wire.zz_lt h1 h2) R
  rw [← h.2] at hd
  refine ⟨_, ?_, h.skip⟩
  rw [numTells_ok hd, Wire.unzz_zz]
theorem rest_text {s t : ByteArray} {k : Nat} {R : List UInt8} (ht : t.size ≤ 1000) (h : Rest s k (Wire.enc (Wire.zz t.size) ++ (t.data.toList ++ R))) :
    ∃ k', numTells s k = ((t.size : Int), k', 0) ∧ k' + t.size ≤ s.size ∧ s.extract k' (k' + t.size) = t ∧ Rest s (k' + t.size) R := by
  obtain ⟨k', hn, hr⟩ := rest_num (by omega) (by omega) h
  have e : t.data.toList.length = t.size := Array.length_toList
  have hs := hr.skip
  rw [e] at hs
  refine ⟨k', hn, hs.1, ?_, hs⟩
  apply ByteArray.ext
  apply Array.ext'
  rw [ByteArray.data_extract, Array.toList_extract, List.extract_eq_take_drop, hr.2, show k' + t.size - k' = t.data.toList.length from by rw [e]; omega, List.take_left]
theorem rest_bool {s : ByteArray} {k : Nat} {c : Bool} {R : List UInt8} (h : Rest s k ((if c then 1 else 0) :: R)) :
    ∃ hk : k < s.size, (s[k] : UInt8).toNat = (if c then 1 else 0) ∧ Rest s (k + 1) R := by
  have hl := h.len
  rw [List.length_cons] at hl
  have hk : k < s.size := by omega
  refine ⟨hk, ?_, Rest.skip (A := [if c then 1 else 0]) h⟩
  have hk' : k < s.data.toList.length := by rw [show s.data.toList.length = s.size from Array.length_toList]; exact hk
  have e := h.2
  rw [List.drop_eq_getElem_cons hk'] at e
  injection e with e _
  have e2 : (s[k] : UInt8) = s.data.toList[k] := by simp; rfl
  rw [e2, e]
  cases c <;> rfl
theorem bytes_toList (l : List UInt8) : (⟨l.toArray⟩ : ByteArray).data.toList = l := rfl
theorem bytes_size (l : List UInt8) : (⟨l.toArray⟩ : ByteArray).size = l.length := by simp [ByteArray.size]
end Go.Proofs.Ytkcecijepbceiaa
