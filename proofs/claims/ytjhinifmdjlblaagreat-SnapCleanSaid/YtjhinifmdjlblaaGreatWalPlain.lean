/-
  The plain law of package wal: groups of records as frames, and what is found of them in bytes, whole or cut.
  Conditions: records of less than 60000 bytes. No program is in sight here.
-/
import Derived.Test.YtjhinifmdjlblaaGreatSumPlain
import Derived.Test.YtjhinifmdjlblaaGreatWirePlain
namespace Go.Proofs.YtjhinifmdjlblaaGreat
namespace Wal
open Go.Proofs.YtjhinifmdjlblaaGreat.Sum (frames scan frames_append frames_cons frames_nil frame_length scan_frames)
abbrev Bs := List UInt8

/-- What a log has: records, groups, bytes. -/
structure Gs where
  recs : List Bs
  groups : Nat
  size : Nat
def countB (r : Bs) (n : Nat) : Bool := match Wire.dec 0 0 r with
  | .ok (N, m) => m == r.length && Wire.unzz N == (n : Int)
  | .error _ => false
/-- The groups at the front of frames; some records are open, so many bytes are behind. -/
def good : List Bs → List Bs → Nat → Gs → Gs
  | [], _, _, st => st
  | [] :: _, _, _, st => st
  | (c :: r) :: fs, op, a, st => if c = 114 then good fs (op ++ [r]) (a + (r.length + 9)) st
      else if c = 99 then (if countB r op.length = true then good fs [] (a + (r.length + 9)) ⟨st.recs ++ op, st.groups + 1, a + (r.length + 9)⟩ else st)
      else st
def none_ : Gs := ⟨[], 0, 0⟩
def goodOf (b : Bs) : Gs := good (scan b).1 [] 0 none_
def mark (n : Nat) : Bs := 99 :: Wire.enc (Wire.zz n)
def groupF (l : List Bs) : List Bs := l.map (fun s => (114 : UInt8) :: s) ++ [mark l.length]
def group (l : List Bs) : Bs := frames (groupF l)
theorem frames_one (s : Bs) : (frames [s]).length = s.length + 8 := by rw [frames_cons, frames_nil, List.append_nil, frame_length]
theorem good_recs (l fs : List Bs) : ∀ (op : List Bs) (a : Nat) (st : Gs), good (l.map (fun s => (114 : UInt8) :: s) ++ fs) op a st = good fs (op ++ l) (a + (frames (l.map (fun s => (114 : UInt8) :: s))).length) st := by
  induction l with
  | nil => intro op a st; simp [frames_nil]
  | cons s l ih =>
    intro op a st
    rw [List.map_cons, List.cons_append, good, if_pos rfl, ih, frames_cons, List.length_append, frame_length]
    simp only [List.append_assoc, List.cons_append, List.nil_append, List.length_cons]
    rw [show a + (s.length + 9) + (frames (l.map (fun s => (114 : UInt8) :: s))).length = a + (s.length + 1 + 8 + (frames (l.map (fun s => (114 : UInt8) :: s))).length) from by omega]
theorem countB_mark (n : Nat) (h : n ≤ 9223372036854775807) : countB (Wire.enc (Wire.zz n)) n = true := by
  have h1 := Wire.dec_enc0 (Wire.zz_lt (v := (n : Int)) (by omega) (by omega)) []
  rw [List.append_nil] at h1
  unfold countB
  rw [h1]
  simp [Wire.unzz_zz]
theorem group_length (l : List Bs) : (group l).length = (frames (l.map (fun s => (114 : UInt8) :: s))).length + ((Wire.enc (Wire.zz l.length)).length + 9) := by
  unfold group groupF
  rw [frames_append, List.length_append, frames_one]
  simp [mark]
theorem good_group (l fs : List Bs) (a : Nat) (st : Gs) (h : l.length ≤ 9223372036854775807) : good (groupF l ++ fs) [] a st = good fs [] (a + (group l).length) ⟨st.recs ++ l, st.groups + 1, a + (group l).length⟩ := by
  rw [group_length]
  unfold groupF
  rw [List.append_assoc, good_recs]
  simp only [List.nil_append, List.cons_append, mark]
  rw [good, if_neg (by decide), if_pos rfl, if_pos (countB_mark _ h)]
  rw [Nat.add_assoc]
def file (G : List (List Bs)) : Bs := (G.map group).flatten
def allF (G : List (List Bs)) : List Bs := (G.map groupF).flatten
theorem file_nil : file [] = [] := rfl
theorem file_snoc (G : List (List Bs)) (l : List Bs) : file (G ++ [l]) = file G ++ group l := by simp [file]
theorem allF_snoc (G : List (List Bs)) (l : List Bs) : allF (G ++ [l]) = allF G ++ groupF l := by simp [allF]
theorem frames_all (G : List (List Bs)) : frames (allF G) = file G := by
  induction G with
  | nil => rfl
  | cons l G ih => simp only [allF, file, List.map_cons, List.flatten_cons] at ih ⊢; rw [frames_append, ih]; rfl
theorem good_file (G : List (List Bs)) (hG : ∀ l ∈ G, l.length ≤ 9223372036854775807) (fs : List Bs) : ∀ (R : List Bs) (g a : Nat), good (allF G ++ fs) [] a ⟨R, g, a⟩ = good fs [] (a + (file G).length) ⟨R ++ G.flatten, g + G.length, a + (file G).length⟩ := by
  induction G with
  | nil => intro R g a; simp [allF, file]
  | cons l G ih =>
    intro R g a
    have h1 : allF (l :: G) = groupF l ++ allF G := by simp [allF]
    have h2 : file (l :: G) = group l ++ file G := by simp [file]
    rw [h1, h2, List.append_assoc, good_group _ _ _ _ (hG l (by simp)), ih (fun m hm => hG m (by simp [hm]))]
    simp only [List.flatten_cons, List.append_assoc, List.length_append, List.length_cons]
    rw [show g + 1 + G.length = g + (G.length + 1) from by omega, Nat.add_assoc]
/-- Groups that can be found again. -/
def Fit (l : List Bs) : Prop := l.length ≤ 9223372036854775807 ∧ ∀ s ∈ l, s.length < 60000
theorem mark_len (n : Nat) : (mark n).length ≤ 11 := by unfold mark; have := Wire.enc_le (Wire.zz n); simp; omega
theorem groupF_le {l : List Bs} (h : Fit l) : ∀ s ∈ groupF l, s.length ≤ 60000 := by
  intro s hs
  unfold groupF at hs
  rcases List.mem_append.1 hs with h1 | h1
  · obtain ⟨t, ht, rfl⟩ := List.mem_map.1 h1
    have := h.2 t ht
    simp; omega
  · obtain rfl : s = mark l.length := by simpa using h1
    have := mark_len l.length
    omega
theorem allF_le {G : List (List Bs)} (h : ∀ l ∈ G, Fit l) : ∀ s ∈ allF G, s.length ≤ 60000 := by
  intro s hs
  unfold allF at hs
  obtain ⟨fs, hf, hs⟩ := List.mem_flatten.1 hs
  obtain ⟨l, hl, rfl⟩ := List.mem_map.1 hf
  exact groupF_le (h l hl) s hs
theorem goodOf_file {G : List (List Bs)} (h : ∀ l ∈ G, Fit l) (r : Bs) : goodOf (file G ++ r) = good (scan r).1 [] (file G).length ⟨G.flatten, G.length, (file G).length⟩ := by
  unfold goodOf
  rw [← frames_all, scan_frames (allF_le h), frames_all]
  have := good_file G (fun l hl => (h l hl).1) (scan r).1 [] 0 0
  simpa [none_] using this
theorem good_end (op : List Bs) (a : Nat) (st : Gs) : good [] op a st = st := by unfold good; rfl
theorem goodOf_tail {G : List (List Bs)} (h : ∀ l ∈ G, Fit l) {r : Bs} (hr : r.length < 8) : goodOf (file G ++ r) = ⟨G.flatten, G.length, (file G).length⟩ := by
  rw [goodOf_file h, Sum.scan_short hr, good_end]
theorem goodOf_whole {G : List (List Bs)} (h : ∀ l ∈ G, Fit l) : goodOf (file G) = ⟨G.flatten, G.length, (file G).length⟩ := by
  have := goodOf_tail h (r := []) (by simp)
  simpa using this
/-- Cut within a group: what was ahead of it. -/
theorem goodOf_cut {G : List (List Bs)} (h : ∀ l ∈ G, Fit l) {l : List Bs} (hl : Fit l) {k : Nat} (hk : k < (group l).length) : goodOf (file G ++ (group l).take k) = ⟨G.flatten, G.length, (file G).length⟩ := by
  rw [goodOf_file h]
  obtain ⟨h1, h2⟩ := Sum.scan_cut (groupF_le hl) k hk
  have h3 := Sum.scan_framed ((frames (groupF l)).take k)
  have h4 := Sum.scan_le ((frames (groupF l)).take k)
  change (scan ((group l).take k)).1 = _ at h1
  change frames (scan ((group l).take k)).1 = _ at h3
  change (scan ((group l).take k)).2 ≤ ((group l).take k).length at h4
  change _ ≤ (groupF l).length at h2
  have h5 : (frames (scan ((group l).take k)).1).length ≤ k := by
    rw [h3, List.length_take, List.length_take]
    exact Nat.le_trans (Nat.min_le_right _ _) (Nat.min_le_left _ _)
  obtain ⟨j, hj⟩ : ∃ j, (scan ((frames (groupF l)).take k)).1.length = j := ⟨_, rfl⟩
  change (scan ((group l).take k)).1.length = j at hj
  have hjl : j ≤ l.length := by
    rcases Nat.lt_or_ge l.length j with h6 | h6
    · have h7 : (groupF l).length = l.length + 1 := by simp [groupF]
      have h8 : (scan ((group l).take k)).1 = groupF l := by
        rw [h1]
        exact List.take_of_length_le (by show _ ≤ (scan ((group l).take k)).1.length; rw [hj]; omega)
      rw [h8] at h5
      change (group l).length ≤ k at h5
      omega
    · exact h6
  have h9 : (scan ((group l).take k)).1 = (l.take j).map (fun s => (114 : UInt8) :: s) ++ [] := by
    rw [h1]
    show (groupF l).take (scan ((group l).take k)).1.length = _
    rw [hj]
    unfold groupF
    rw [List.take_append_of_le_length (by simpa using hjl), List.map_take, List.append_nil]
  rw [h9, good_recs, good_end]
/-- The good part is no more than the bytes. -/
theorem good_size : ∀ (fs op : List Bs) (a : Nat) (st : Gs), st.size ≤ a → (good fs op a st).size ≤ a + (frames fs).length
  | [], _, a, st, h => by rw [good_end]; omega
  | [] :: fs, _, a, st, h => by unfold good; omega
  | (c :: r) :: fs, op, a, st, h => by
    unfold good
    rw [frames_cons, List.length_append, frame_length]
    simp only [List.length_cons]
    split
    · have := good_size fs (op ++ [r]) (a + (r.length + 9)) st (by omega)
      omega
    · split
      · split
        · have := good_size fs [] (a + (r.length + 9)) ⟨st.recs ++ op, st.groups + 1, a + (r.length + 9)⟩ (Nat.le_refl _)
          omega
        · omega
      · omega
theorem goodOf_size (b : Bs) : (goodOf b).size ≤ b.length := by
  have h1 := good_size (scan b).1 [] 0 none_ (Nat.le_refl _)
  have h2 := Sum.scan_framed b
  have h3 := Sum.scan_le b
  rw [h2, List.length_take] at h1
  unfold goodOf
  omega
theorem good_few : ∀ (fs op : List Bs) (a : Nat) (st : Gs), (good fs op a st).recs.length ≤ st.recs.length + op.length + fs.length ∧ (good fs op a st).groups ≤ st.groups + fs.length
  | [], _, a, st => by rw [good_end]; exact ⟨by simp only [List.length_nil]; omega, by omega⟩
  | [] :: fs, _, a, st => by unfold good; simp; omega
  | (c :: r) :: fs, op, a, st => by
    unfold good
    simp only [List.length_cons]
    split
    · have := good_few fs (op ++ [r]) (a + (r.length + 9)) st
      simp only [List.length_append, List.length_cons, List.length_nil] at this
      omega
    · split
      · split
        · have := good_few fs [] (a + (r.length + 9)) ⟨st.recs ++ op, st.groups + 1, a + (r.length + 9)⟩
          simp only [List.length_append, List.length_nil] at this
          omega
        · omega
      · omega
end Wal
end Go.Proofs.YtjhinifmdjlblaaGreat
