/-
  WalWhole, the plain law: a commit while a fuse burns; what is opened behind a failure.
  Conditions: files of at most 200000 bytes.
-/
import Derived.Test.YtfmbadinfhpihaaGreatWalMends
namespace Go.Proofs.YtfmbadinfhpihaaGreat
open Go.RowKit Go.Maps Go.Sort
set_option maxRecDepth 100000

/-- A disk whose fuse burns, and these files. -/
structure Fz (st : Dk) (fs : DataW Unit) : Prop where
  ok : st.Ok
  on : st.on = true
  fu : st.fused = true
  left : 0 ≤ st.left
  fs_ : st.fs = fs
theorem opD_fz {st : Dk} {fs : DataW Unit} (h : Fz st fs) (hl : 0 < st.left) : ∃ st1, opD st = (st1, false) ∧ Fz st1 fs ∧ st1.left = st.left - 1 := by
  have h1 := opD_ok h.ok
  have e : opD st = (⟨st.on, true, st.left - 1, min (st.ops + 1) 4611686018427387904, st.fs⟩, false) := by unfold opD; rw [if_pos h.fu, if_pos hl]
  rw [e] at h1
  exact ⟨_, e, ⟨h1, h.on, rfl, by show 0 ≤ st.left - 1; omega, h.fs_⟩, rfl⟩
/-- What is left of a disk when the loop is through: the groups, and perhaps one of which not all is synced. -/
structure LeftOf (nm : ByteArray) (G : List (List ByteArray)) (P : List ByteArray) (st : Dk) : Prop where
  ok : st.Ok
  fit : ∀ ss ∈ G, FitG ss
  size : (fileOf G).size ≤ 20000
  ex : st.fs = oneF nm (fileOf G) ((fileOf G).size : Nat) ∨ ∃ ss, FitG ss ∧ P = G.flatten ++ ss ∧ (groupB ss).size ≤ 2000 ∧ st.fs = oneF nm (fileOf G ++ groupB ss) ((fileOf G).size : Nat)
theorem commit_fz {nm : ByteArray} {G : List (List ByteArray)} {st : Dk} {ss : List ByteArray} (h : Fz st (oneF nm (fileOf G) ((fileOf G).size : Nat))) (hl : longB ss = false) (hn : ss.length ≠ 0) (hd : (fileOf G).size + (groupB ss).size ≤ 400000) :
    (∃ st', commitR nm (logOf G false) st ss = (0, logOf (G ++ [ss]) false, st') ∧ Fz st' (oneF nm (fileOf (G ++ [ss])) ((fileOf (G ++ [ss])).size : Nat))) ∨
    (∃ st', commitR nm (logOf G false) st ss = (14, logOf G true, st') ∧ st'.Ok ∧ st'.fs = oneF nm (fileOf G ++ groupB ss) ((fileOf G).size : Nat)) := by
  have hok := commitD_ok nm (groupB ss) h.ok
  rcases (show 1 < st.left ∨ st.left ≤ 1 by omega) with h2 | h2
  · left
    obtain ⟨s1, e1, f1, l1⟩ := opD_fz h (by omega)
    have ha := append_gen h.on (s := nm) (x := groupB ss) (by rw [h.fs_]; exact has_one) (by rw [h.fs_, tot_one]; exact hd)
    rw [e1, h.fs_, at_one, put_one] at ha
    have ha2 : appendD st nm (groupB ss) = (0, s1.with (oneF nm (fileOf G ++ groupB ss) ((fileOf G).size : Nat))) := ha
    have hok1 := append_ok h.ok nm (groupB ss)
    rw [ha2] at hok1
    have f2 : Fz (s1.with (oneF nm (fileOf G ++ groupB ss) ((fileOf G).size : Nat))) (oneF nm (fileOf G ++ groupB ss) ((fileOf G).size : Nat)) := ⟨hok1, f1.on, f1.fu, f1.left, rfl⟩
    obtain ⟨s3, e3, f3, _⟩ := opD_fz f2 (by show 0 < s1.left; omega)
    have hsy : syncD (s1.with (oneF nm (fileOf G ++ groupB ss) ((fileOf G).size : Nat))) nm = (0, s3.with (oneF nm (fileOf G ++ groupB ss) ((fileOf G ++ groupB ss).size : Nat))) := by
      unfold syncD doD
      rw [if_pos f2.on, e3, if_neg (show ¬ (false = true) by decide)]
      have hw : lacksD s3 nm = 0 := by unfold lacksD; rw [f3.fs_, if_pos has_one]
      simp only [hw, if_true]
      rw [f3.fs_, at_one, put_one]
    have hok3 := sync_ok hok1 nm
    rw [hsy] at hok3
    have hf : firstD (commitD nm (groupB ss)) st = (0, s3.with (oneF nm (fileOf G ++ groupB ss) ((fileOf G ++ groupB ss).size : Nat))) := by
      unfold commitD
      simp only [firstD, ha2, hsy, if_true]
    refine ⟨_, by rw [commit_of hl hn hf, if_pos rfl], ?_⟩
    rw [fileOf_snoc]
    exact ⟨hok3, f3.on, f3.fu, f3.left, rfl⟩
  · right
    have h0 := h.left
    rcases (show st.left = 0 ∨ st.left = 1 by omega) with e | e
    · have hf := commit_fails0 h.on h.fu e h.fs_ hd
      rw [hf] at hok
      exact ⟨_, by rw [commit_of hl hn hf, if_neg (by decide)], hok, rfl⟩
    · have hf := commit_fails1 h.on h.fu e h.fs_ hd
      rw [hf] at hok
      exact ⟨_, by rw [commit_of hl hn hf, if_neg (by decide)], hok, rfl⟩
/-- What stands behind a crash can be opened, and has the groups, or those and the one under way. -/
structure Opens (nm : ByteArray) (G' : List (List ByteArray)) (x : ByteArray) (n : Int) (st : Dk) : Prop where
  on1 : On1 st (oneF nm (fileOf G' ++ x) n)
  h0 : 0 ≤ n
  h1 : n ≤ ((fileOf G' ++ x).size : Int)
  hg : lgOf (Wal.goodOf (fileOf G' ++ x).data.toList) false = logOf G' false ∧ (Wal.goodOf (fileOf G' ++ x).data.toList).size = (fileOf G').size
  hx : x.size = 0 → n = ((fileOf G').size : Nat)
  hz : (fileOf G').size + x.size ≤ 200000
  fit : ∀ ss ∈ G', FitG ss
theorem cut_app (a b : ByteArray) (j : Nat) : (a ++ b).extract 0 (a.size + j) = a ++ b.extract 0 j := of_data (by
  rw [Sm.extract_data', Sm.data_append, Sm.data_append, Sm.extract_data', List.drop_zero, List.drop_zero, Nat.sub_zero, Nat.sub_zero, List.take_append, List.take_of_length_le (by rw [len_data]; omega), len_data]
  congr 2
  omega)
theorem extract_all (b : ByteArray) : b.extract 0 b.size = b := of_data (by rw [Sm.extract_data', List.drop_zero, Nat.sub_zero, List.take_of_length_le (by rw [len_data]; exact Nat.le_refl _)])
theorem app_empty (a : ByteArray) : a ++ (⟨#[]⟩ : ByteArray) = a := of_data (by rw [Sm.data_append]; simp)
theorem crash_fs (keep : List Int) (nm x : ByteArray) (n : Int) (st : Dk) (hfs : st.fs = oneF nm x n) : (restoreD (crashD st keep)).fs = oneF nm (cutOf keep 0 (x, n)) ((cutOf keep 0 (x, n)).size : Nat) := by
  show crashF keep (lstS st.fs) st.fs (lstS st.fs).length = _
  rw [hfs, lst_one]
  exact crash_one keep
theorem crash_on1 (keep : List Int) {st : Dk} (h : st.Ok) {fs : DataW Unit} (hfs : (restoreD (crashD st keep)).fs = fs) : On1 (restoreD (crashD st keep)) fs := ⟨restore_ok (crashD_ok h keep), rfl, rfl, hfs⟩
theorem left_opens {nm : ByteArray} {G : List (List ByteArray)} {P : List ByteArray} {st : Dk} (h : LeftOf nm G P st) (keep : List Int) :
    ∃ G' x n, Opens nm G' x n (restoreD (crashD st keep)) ∧ (G'.flatten = G.flatten ∨ G'.flatten = P) := by
  have hz0 : (⟨#[]⟩ : ByteArray).size = 0 := rfl
  have hs := h.size
  rcases h.ex with hfs | ⟨ss, hss, hP, hgs, hfs⟩
  · have hk := kOf_range keep 0 (n := ((fileOf G).size : Int) - ((fileOf G).size : Nat) + 1) (by omega)
    have hcut : cutOf keep 0 (fileOf G, (((fileOf G).size : Nat) : Int)) = fileOf G := by
      unfold cutOf
      simp only
      have : ((((fileOf G).size : Nat) : Int) + kOf keep 0 (((fileOf G).size : Int) - ((fileOf G).size : Nat) + 1)).toNat = (fileOf G).size := by omega
      rw [this]
      exact extract_all _
    have hf := crash_fs keep nm _ _ st hfs
    rw [hcut] at hf
    refine ⟨G, ⟨#[]⟩, _, ⟨crash_on1 keep h.ok (by rw [app_empty]; exact hf), by omega, by rw [size_app']; omega, goodOf_tailB h.fit (by decide), fun _ => rfl, by omega, h.fit⟩, .inl rfl⟩
  · have hsz : (fileOf G ++ groupB ss).size = (fileOf G).size + (groupB ss).size := size_app' _ _
    have hk := kOf_range keep 0 (n := ((fileOf G ++ groupB ss).size : Int) - ((fileOf G).size : Nat) + 1) (by omega)
    obtain ⟨j, hj, hj2⟩ : ∃ j : Nat, kOf keep 0 (((fileOf G ++ groupB ss).size : Int) - ((fileOf G).size : Nat) + 1) = j ∧ j ≤ (groupB ss).size := ⟨(kOf keep 0 (((fileOf G ++ groupB ss).size : Int) - ((fileOf G).size : Nat) + 1)).toNat, by omega, by omega⟩
    have hcut : cutOf keep 0 (fileOf G ++ groupB ss, (((fileOf G).size : Nat) : Int)) = fileOf G ++ (groupB ss).extract 0 j := by
      unfold cutOf
      simp only
      rw [hj, show ((((fileOf G).size : Nat) : Int) + (j : Int)).toNat = (fileOf G).size + j by omega]
      exact cut_app _ _ _
    have hf := crash_fs keep nm _ _ st hfs
    rw [hcut] at hf
    have hjx : ((groupB ss).extract 0 j).size = j := by rw [Sm.extract_size _ _ _ hj2]; omega
    rcases Nat.lt_or_ge j (groupB ss).size with hlt | hge
    · exact ⟨G, (groupB ss).extract 0 j, _, ⟨crash_on1 keep h.ok hf, by omega, by omega, goodOf_cutB h.fit hss hlt, fun h0 => by rw [size_app', h0, Nat.add_zero], by omega, h.fit⟩, .inl rfl⟩
    · have hje : (groupB ss).extract 0 j = groupB ss := by rw [show j = (groupB ss).size by omega]; exact extract_all _
      rw [hje, ← fileOf_snoc] at hf
      have hfit : ∀ s ∈ G ++ [ss], FitG s := fun s hs => by
        rcases List.mem_append.1 hs with h' | h'
        · exact h.fit s h'
        · obtain rfl : s = ss := by simpa using h'
          exact hss
      have hsn : (fileOf (G ++ [ss])).size = (fileOf G).size + (groupB ss).size := by rw [fileOf_snoc]; exact hsz
      exact ⟨G ++ [ss], ⟨#[]⟩, _, ⟨crash_on1 keep h.ok (by rw [app_empty]; exact hf), by omega, by rw [size_app']; omega, goodOf_tailB hfit (by decide), fun _ => rfl, by omega, hfit⟩, .inr (by rw [hP]; simp)⟩
end Go.Proofs.YtfmbadinfhpihaaGreat
