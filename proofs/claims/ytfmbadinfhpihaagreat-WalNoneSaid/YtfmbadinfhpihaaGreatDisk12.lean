/-
  A disk with power and no fuse, step by step, in plain words; a map of one file; chapter 5's first call.
  Conditions: as each lemma says.
-/
import Derived.Test.YtfmbadinfhpihaaGreatDisk11
namespace Go.Proofs.YtfmbadinfhpihaaGreat
open Go.RowKit Go.Maps Go.Sort
set_option maxRecDepth 100000

def onD (o : Int) (fs : DataW Unit) : Dk := ⟨true, false, 0, o, fs⟩
def upO (o : Int) : Int := min (o + 1) 4611686018427387904
theorem onD_ok {o : Int} {fs : DataW Unit} (hg : GoodF fs) (h0 : 0 ≤ o) (h1 : o ≤ 4611686018427387904) (hs : Maps.size fs ≤ 1000000) (ht : totF fs ≤ 1000000000) : (onD o fs).Ok := ⟨hg, h0, h1, (show (-9223372036854775808 : Int) ≤ 0 by decide), (show (0 : Int) ≤ 9223372036854775807 by decide), hs, ht⟩
theorem opD_on (o : Int) (fs : DataW Unit) : opD (onD o fs) = (onD (upO o) fs, false) := rfl
theorem doD_on (o : Int) (fs : DataW Unit) (W : Dk → Int) (K : Dk → Dk) : doD (onD o fs) W K = if W (onD (upO o) fs) = 0 then (0, K (onD (upO o) fs)) else (W (onD (upO o) fs), onD (upO o) fs) := by
  unfold doD
  rw [if_pos (show (onD o fs).on = true from rfl), opD_on, if_neg (show ¬ (false = true) by decide)]
section
variable {o : Int} {fs : DataW Unit} {s t x : ByteArray}
theorem create_new (hv : validB s = true) (hh : hasS fs s = false) (hz : Maps.size fs < 40) : createD (onD o fs) s = (0, onD (upO o) (putF fs s ⟨#[]⟩ 0)) := by
  have e : createW (onD (upO o) fs) s = 0 := by
    unfold createW
    rw [if_pos hv, if_neg (by show ¬ hasS fs s = true; rw [hh]; decide), if_neg (by show ¬ 40 ≤ Maps.size fs; omega)]
  unfold createD
  rw [doD_on, if_pos e]
  rfl
theorem create_full (hv : validB s = true) (hh : hasS fs s = false) (hz : 40 ≤ Maps.size fs) : createD (onD o fs) s = (10, onD (upO o) fs) := by
  have e : createW (onD (upO o) fs) s = 10 := by
    unfold createW
    rw [if_pos hv, if_neg (by show ¬ hasS fs s = true; rw [hh]; decide), if_pos (by show 40 ≤ Maps.size fs; omega)]
  unfold createD
  rw [doD_on, if_neg (by rw [e]; decide), e]
theorem append_on (hh : hasS fs s = true) (ht : totF fs + x.size ≤ 400000) : appendD (onD o fs) s x = (0, onD (upO o) (putF fs s ((fileAt fs s).1 ++ x) (fileAt fs s).2)) := by
  have e : appendW (onD (upO o) fs) s x = 0 := by
    unfold appendW
    rw [if_pos (show hasS (onD (upO o) fs).fs s = true from hh), if_neg (by show ¬ 400000 < totF fs + x.size; omega)]
  unfold appendD
  rw [if_pos (show (onD o fs).on = true from rfl), opD_on, if_neg (show ¬ (false = true) by decide)]
  rw [e, if_pos rfl]
  rfl
theorem append_full (hh : hasS fs s = true) (ht : 400000 < totF fs + x.size) : appendD (onD o fs) s x = (10, onD (upO o) fs) := by
  have e : appendW (onD (upO o) fs) s x = 10 := by
    unfold appendW
    rw [if_pos (show hasS (onD (upO o) fs).fs s = true from hh), if_pos (by show 400000 < totF fs + x.size; omega)]
  unfold appendD
  rw [if_pos (show (onD o fs).on = true from rfl), opD_on, if_neg (show ¬ (false = true) by decide)]
  rw [e, if_neg (by decide)]
theorem sync_on (hh : hasS fs s = true) : syncD (onD o fs) s = (0, onD (upO o) (putF fs s (fileAt fs s).1 ((fileAt fs s).1.size : Nat))) := by
  have e : lacksD (onD (upO o) fs) s = 0 := by
    unfold lacksD
    rw [if_pos (show hasS (onD (upO o) fs).fs s = true from hh)]
  unfold syncD
  rw [doD_on, if_pos e]
  rfl
theorem remove_on (hh : hasS fs s = true) : removeD (onD o fs) s = (0, onD (upO o) (delF fs s)) := by
  have e : lacksD (onD (upO o) fs) s = 0 := by
    unfold lacksD
    rw [if_pos (show hasS (onD (upO o) fs).fs s = true from hh)]
  unfold removeD
  rw [doD_on, if_pos e]
  rfl
theorem rename_on (hh : hasS fs s = true) (hv : validB t = true) : renameD (onD o fs) s t = (0, onD (upO o) (putF (delF fs s) t (fileAt fs s).1 (fileAt fs s).2)) := by
  have e : renameW (onD (upO o) fs) s t = 0 := by
    unfold renameW
    rw [if_pos (show hasS (onD (upO o) fs).fs s = true from hh), if_pos hv]
  unfold renameD
  rw [doD_on, if_pos e]
  rfl
theorem rename_none (hh : hasS fs s = false) : renameD (onD o fs) s t = (7, onD (upO o) fs) := by
  have e : renameW (onD (upO o) fs) s t = 7 := by
    unfold renameW
    rw [if_neg (by show ¬ hasS fs s = true; rw [hh]; decide)]
  unfold renameD
  rw [doD_on, if_neg (by rw [e]; decide), e]
theorem read_on : readD (onD o fs) s = ((fileAt fs s).1, if hasS fs s = true then 0 else 7) := rfl
end
/-- One file. -/
def oneF (s x : ByteArray) (n : Int) : DataW Unit := .map [(kS s, fileD x n)]
section
variable {s x y : ByteArray} {n m : Int}
theorem key_self (s : ByteArray) : (kS s).sameKey (kS s) = true := by simp [kS, Lit.sameKey]
theorem put_none : putF (.map []) s x n = oneF s x n := rfl
theorem put_one : putF (oneF s x n) s y m = oneF s y m := by
  show DataW.map (DataW.insert (kS s, fileD y m) (List.filter (fun p => !p.1.sameKey (kS s)) [(kS s, fileD x n)])) = _
  rw [List.filter_cons, key_self]
  rfl
theorem del_one : delF (oneF s x n) s = .map [] := by
  show DataW.map (List.filter (fun p => !p.1.sameKey (kS s)) [(kS s, fileD x n)]) = _
  rw [List.filter_cons, key_self]
  rfl
theorem at_one : fileAt (oneF s x n) s = (x, n) := by rw [← put_none, fileAt_put_same goodF_none]
theorem has_one : hasS (oneF s x n) s = true := by rw [← put_none, hasF_put goodF_none]; exact .inl rfl
theorem not_one {t : ByteArray} (h : t ≠ s) : hasS (oneF s x n) t = false := by
  cases hh : hasS (oneF s x n) t
  · rfl
  · rw [← put_none, hasF_put goodF_none] at hh
    rcases hh with h1 | h1
    · exact absurd h1 h
    · cases h1
theorem tot_one : totF (oneF s x n) = x.size := by
  show ([(kS s, fileD x n)].map sizeE).sum = x.size
  simp [sizeE, unfile_mk]
theorem good_one (h0 : 0 ≤ n) (h1 : n ≤ (x.size : Int)) : GoodF (oneF s x n) := goodF_none.put s x h0 h1
theorem bytes_back (s : ByteArray) : (⟨s.data.toList.toArray⟩ : ByteArray) = s := by
  obtain ⟨⟨l⟩⟩ := s
  rfl
theorem lst_one : lstS (oneF s x n) = [s] := by
  unfold lstS
  have e : strKeys (oneF s x n) = [s.data.toList] := rfl
  rw [e, List.mergeSort_singleton, List.map_cons, List.map_nil, bytes_back]
theorem crash_one (keep : List Int) : crashF keep [s] (oneF s x n) 1 = oneF s (cutOf keep 0 (x, n)) ((cutOf keep 0 (x, n)).size : Nat) := by
  rw [crashF_step (s := s) rfl]
  show putF (oneF s x n) s (cutOf keep 0 (fileAt (oneF s x n) s)) ((cutOf keep 0 (fileAt (oneF s x n) s)).size : Nat) = _
  rw [at_one, put_one]
theorem crashD_one (keep : List Int) (o : Int) : restoreD (crashD (onD o (oneF s x n)) keep) = onD o (oneF s (cutOf keep 0 (x, n)) ((cutOf keep 0 (x, n)).size : Nat)) := by
  unfold crashD restoreD onD
  show Dk.mk true false 0 o (crashF keep (lstS (oneF s x n)) (oneF s x n) (lstS (oneF s x n)).length) = _
  rw [lst_one]
  show Dk.mk true false 0 o (crashF keep [s] (oneF s x n) 1) = _
  rw [crash_one]
end
theorem Dk.there {c b : Nat} {w w1 w2 : World} (hc : w.heap.size ≤ c) (hb : w.heap.size ≤ b) (h : Below w.heap.size w w1) (hm : Mv [c, b] [c, b] w1 w2) : Below w.heap.size w w2 :=
  h.trans (hm.below (fun k hk => by simp at hk; omega) h.size)
theorem Dk.there1 {c : Nat} {w w1 w2 : World} (hc : w.heap.size ≤ c) (h : Below w.heap.size w w1) (hm : Mv [c] [c] w1 w2) : Below w.heap.size w w2 :=
  h.trans (hm.below (fun k hk => by simp at hk; omega) h.size)
end Go.Proofs.YtfmbadinfhpihaaGreat
