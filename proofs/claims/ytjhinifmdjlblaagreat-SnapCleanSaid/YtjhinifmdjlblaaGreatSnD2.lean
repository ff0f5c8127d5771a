/-
  Package snap, the plain law: a commit while a fuse may burn; what a crash leaves can be opened.
  Conditions: short names; rounds below 10^12; what is on the disk fits.
-/
import Derived.Test.YtjhinifmdjlblaaGreatSnD
namespace Go.Proofs.YtjhinifmdjlblaaGreat
open Go.RowKit Go.Maps Go.Sort
set_option maxRecDepth 100000

section
variable {f : Bool} {st : Dk} {fs : DataW Unit} {m : Fm} {dir base state : ByteArray} {n : Nat} {G : List (List ByteArray)} {ss : List ByteArray}
theorem commit_law (h : Pow f st fs) (hF : Files fs (qm dir n base G)) (hb : base.size ≤ 150000) (hl : longB ss = false) (hn : ss.length ≠ 0) (hd : (fileOf G).size + (groupB ss).size ≤ 90000) :
    (∃ st' fs', commitR (lgB dir n) (logOf G false) st ss = (0, logOf (G ++ [ss]) false, st') ∧ Pow f st' fs' ∧ Files fs' (qm dir n base (G ++ [ss]))) ∨
    (f = true ∧ ∃ st' fs', commitR (lgB dir n) (logOf G false) st ss = (14, logOf G true, st') ∧ Dead st' fs' ∧ Files fs' ((qm dir n base G).set (lgB dir n) (some (fileOf G ++ groupB ss, ((fileOf G).size : Int))))) := by
  have htot := tot_qm hF hb
  have a0 := hF.some_ _ _ qm_lg
  have hap := append_pow h (s := lgB dir n) (x := groupB ss) a0.1 (by omega)
  rw [a0.2] at hap
  have hsz : (fileOf G ++ groupB ss).size = (fileOf G).size + (groupB ss).size := size_app' _ _
  have F1 := hF.put (lgB dir n) (fileOf G ++ groupB ss) (n := ((fileOf G).size : Nat)) (by omega) (by omega)
  rcases hap with ⟨s1, e1, h1⟩ | ⟨hf, s1, e1, h1⟩
  · have a1 := F1.some_ _ _ (Fm.set_same _ _ _)
    have hsy := sync_pow h1 a1.1
    rw [a1.2] at hsy
    rcases hsy with ⟨s2, e2, h2⟩ | ⟨hf, s2, e2, h2⟩
    · have hfd : firstD (commitD (lgB dir n) (groupB ss)) st = (0, s2) := by
        unfold commitD
        simp only [firstD, e1, e2, if_true]
      have F2 := F1.put (lgB dir n) (fileOf G ++ groupB ss) (n := ((fileOf G ++ groupB ss).size : Nat)) (by omega) (Int.le_refl _)
      refine .inl ⟨s2, _, by rw [commit_of hl hn hfd, if_pos rfl], h2, F2.congr fun s => ?_⟩
      by_cases e : s = lgB dir n
      · subst e
        rw [Fm.set_same, qm_lg, fileOf_snoc]
      · rw [Fm.set_other _ _ e, Fm.set_other _ _ e]
        unfold qm
        rw [if_neg e, if_neg e]
    · have hfd : firstD (commitD (lgB dir n) (groupB ss)) st = (14, s2) := by
        unfold commitD
        simp only [firstD, e1, e2, if_true]
        rw [if_neg (by decide)]
      exact .inr ⟨hf, s2, _, by rw [commit_of hl hn hfd, if_neg (by decide)], h2, F1⟩
  · have hfd : firstD (commitD (lgB dir n) (groupB ss)) st = (14, s1) := by
      unfold commitD
      simp only [firstD, e1]
      rw [if_neg (by decide)]
    exact .inr ⟨hf, s1, _, by rw [commit_of hl hn hfd, if_neg (by decide)], h1, F1⟩
/-! ### behind a crash -/
theorem restore_ok' {st : Dk} (h : st.Ok) : (restoreD st).Ok := ⟨h.good, h.ops0, h.ops1, h.left0, h.left1, h.few, h.tot⟩
theorem crash_on1' (keep : List Int) (h : st.Ok) (hfs : (restoreD (crashD st keep)).fs = fs) : On1 (restoreD (crashD st keep)) fs := ⟨restore_ok' (crashD_ok h keep), rfl, rfl, hfs⟩
theorem crash_st (keep : List Int) (h : st.Ok) (hfs : st.fs = fs) (hF : Files fs m) : ∃ fs' m', On1 (restoreD (crashD st keep)) fs' ∧ Files fs' m' ∧ (∀ s, m s = none → m' s = none) ∧ ∀ s x n, m s = some (x, n) → ∃ k : Nat, n ≤ k ∧ k ≤ x.size ∧ m' s = some (x.extract 0 k, (k : Int)) := by
  obtain ⟨m', h1, h2, h3⟩ := hF.crashed keep
  refine ⟨_, m', ?_, h1, h2, h3⟩
  refine crash_on1' keep h ?_
  show crashF keep (lstS st.fs) st.fs (lstS st.fs).length = _
  rw [hfs]
theorem whole_cut {x : ByteArray} {k : Nat} (h1 : ((x.size : Nat) : Int) ≤ k) (h2 : k ≤ x.size) : (x.extract 0 k, (k : Int)) = (x, ((x.size : Nat) : Int)) := by
  have : k = x.size := by omega
  subst this
  rw [extract_whole]
theorem cut_app' (a b : ByteArray) (j : Nat) : (a ++ b).extract 0 (a.size + j) = a ++ b.extract 0 j := of_data (by
  rw [Sm.extract_data', Sm.data_append, Sm.data_append, Sm.extract_data', List.drop_zero, List.drop_zero, Nat.sub_zero, Nat.sub_zero, List.take_append, List.take_of_length_le (by rw [len_data]; omega), len_data]
  congr 2
  omega)
theorem app_none (a : ByteArray) : a ++ (⟨#[]⟩ : ByteArray) = a := of_data (by rw [Sm.data_append]; simp)
/-- What stands in a log's file can be found again, all or what was ahead of it. -/
theorem log_cut (hG : ∀ s ∈ G, FitG s) (hs : FitG ss) {k : Nat} (h1 : (fileOf G).size ≤ k) (h2 : k ≤ (fileOf G ++ groupB ss).size) :
    ∃ G', (G' = G ∨ G' = G ++ [ss]) ∧ lgOf (Wal.goodOf ((fileOf G ++ groupB ss).extract 0 k).data.toList) false = logOf G' false ∧ (Wal.goodOf ((fileOf G ++ groupB ss).extract 0 k).data.toList).size = (fileOf G').size ∧ ((fileOf G ++ groupB ss).extract 0 k).extract 0 (fileOf G').size = fileOf G' := by
  obtain ⟨j, rfl⟩ : ∃ j, k = (fileOf G).size + j := ⟨k - (fileOf G).size, by omega⟩
  rw [size_app'] at h2
  rw [cut_app']
  have hj : j ≤ (groupB ss).size := by omega
  rcases Nat.lt_or_ge j (groupB ss).size with hlt | hge
  · obtain ⟨c1, c2⟩ := goodOf_cutB hG hs hlt
    refine ⟨G, .inl rfl, c1, c2, ?_⟩
    have := cut_app' (fileOf G) ((groupB ss).extract 0 j) 0
    rw [Nat.add_zero] at this
    rw [this]
    have e : ((groupB ss).extract 0 j).extract 0 0 = ⟨#[]⟩ := of_data (by rw [Sm.extract_data']; simp)
    rw [e, app_none]
  · have hje : (groupB ss).extract 0 j = groupB ss := by rw [show j = (groupB ss).size by omega]; exact extract_whole _
    have hfit : ∀ s ∈ G ++ [ss], FitG s := fun s hs' => by
      rcases List.mem_append.1 hs' with h' | h'
      · exact hG s h'
      · obtain rfl : s = ss := by simpa using h'
        exact hs
    rw [hje, ← fileOf_snoc]
    obtain ⟨c1, c2⟩ := goodOf_wholeB hfit
    exact ⟨G ++ [ss], .inr rfl, c1, c2, extract_whole _⟩
theorem opn_log_whole (hG : ∀ s ∈ G, FitG s) (hm : m (lgB dir n) = some (fileOf G, ((fileOf G).size : Int))) : (m (lgB dir n) = none ∧ G = []) ∨ ∃ d k, m (lgB dir n) = some (d, k) ∧ lgOf (Wal.goodOf d.data.toList) false = logOf G false ∧ (Wal.goodOf d.data.toList).size = (fileOf G).size ∧ d.extract 0 (fileOf G).size = fileOf G ∧ ((fileOf G).size = d.size → k = d.size) ∧ ((fileOf G).size < d.size → totF fs + d.size ≤ 400000) := by
  obtain ⟨c1, c2⟩ := goodOf_wholeB hG
  exact .inr ⟨_, _, hm, c1, c2, extract_whole _, fun _ => rfl, fun h => by omega⟩
theorem opn_quiet (_hN : Names dir n) (hF : Files fs (qm dir n base G)) (hz : n = 0 → base = ⟨#[]⟩) (hb : base.size ≤ 150000) (hG : ∀ s ∈ G, FitG s) : Opn dir n base G fs (qm dir n base G) := by
  refine ⟨fun h0 => qm_pic h0, hz, hb, opn_log_whole hG qm_lg, fun s v hv => ?_, ?_⟩
  · rcases qm_dom hv with h | h
    · exact .inl h
    · exact .inr (.inl h)
  · have := hF.few [lgB dir n, picB dir n] fun s v hv => by rcases qm_dom hv with rfl | ⟨_, rfl⟩ <;> simp
    simp only [List.length_cons, List.length_nil] at this
    omega
/-- Behind a crash of a store at rest, or in a commit, or in a save. -/
theorem crash_quiet (keep : List Int) (h : st.Ok) (hfs : st.fs = fs) (hF : Files fs (qm dir n base G)) : ∃ fs', On1 (restoreD (crashD st keep)) fs' ∧ Files fs' (qm dir n base G) := by
  obtain ⟨fs', m', h1, h2, h3, h4⟩ := crash_st keep h hfs hF
  refine ⟨fs', h1, h2.congr fun s => ?_⟩
  cases hm : qm dir n base G s with
  | none => exact h3 s hm
  | some v =>
    obtain ⟨x, k0⟩ := v
    obtain ⟨k, k1, k2, k3⟩ := h4 s x k0 hm
    have hk : k0 = ((x.size : Nat) : Int) := by
      unfold qm at hm
      split at hm
      · injection hm with hm; injection hm with e1 e2; rw [← e2, ← e1]
      · split at hm
        · injection hm with hm; injection hm with e1 e2; rw [← e2, ← e1]
        · cases hm
    rw [k3, hk, whole_cut (by omega) k2]
theorem crash_commit (_hN : Names dir n) (keep : List Int) (h : st.Ok) (hfs : st.fs = fs) (hF : Files fs ((qm dir n base G).set (lgB dir n) (some (fileOf G ++ groupB ss, ((fileOf G).size : Int))))) (hz : n = 0 → base = ⟨#[]⟩) (hb : base.size ≤ 150000) (hG : ∀ s ∈ G, FitG s) (hs : FitG ss) (hd : (fileOf G).size + (groupB ss).size ≤ 90000) :
    ∃ fs' m' G', On1 (restoreD (crashD st keep)) fs' ∧ Files fs' m' ∧ (G' = G ∨ G' = G ++ [ss]) ∧ Opn dir n base G' fs' m' := by
  obtain ⟨fs', m', h1, h2, h3, h4⟩ := crash_st keep h hfs hF
  obtain ⟨k, k1, k2, k3⟩ := h4 (lgB dir n) _ _ (Fm.set_same _ _ _)
  have hsz : (fileOf G ++ groupB ss).size = (fileOf G).size + (groupB ss).size := size_app' _ _
  obtain ⟨G', hG', c1, c2, c3⟩ := log_cut hG hs (k := k) (by omega) k2
  have hdom : ∀ s v, m' s = some v → s = lgB dir n ∨ (n ≠ 0 ∧ s = picB dir n) := fun s v hv => by
    cases hm : ((qm dir n base G).set (lgB dir n) (some (fileOf G ++ groupB ss, ((fileOf G).size : Int)))) s with
    | none => rw [h3 s hm] at hv; cases hv
    | some u =>
      by_cases e : s = lgB dir n
      · exact .inl e
      · rw [Fm.set_other _ _ e] at hm
        exact qm_dom hm
  have hpic : n ≠ 0 → m' (picB dir n) = some (layBA base, ((layBA base).size : Int)) := fun h0 => by
    obtain ⟨j, j1, j2, j3⟩ := h4 (picB dir n) (layBA base) ((layBA base).size : Int) (by rw [Fm.set_other _ _ pic_ne_lg, qm_pic h0])
    rw [j3, whole_cut (by omega) j2]
  have hxs : ((fileOf G ++ groupB ss).extract 0 k).size = k := by rw [Sm.extract_size _ _ _ k2]; omega
  have htot : totF fs' ≤ k + 150055 := by
    have ht := h2.tot [lgB dir n, picB dir n] fun s v hv => by rcases hdom s v hv with rfl | ⟨_, rfl⟩ <;> simp
    simp only [List.map_cons, List.map_nil, List.sum_cons, List.sum_nil, k3, szOf, hxs] at ht
    have hl := layBA_size base hb
    have hp2 : szOf (m' (picB dir n)) ≤ 150055 := by
      cases hm : m' (picB dir n) with
      | none => exact Nat.zero_le _
      | some v =>
        rcases hdom _ _ hm with e | ⟨h0, _⟩
        · exact absurd e pic_ne_lg
        · rw [hpic h0] at hm
          injection hm with hm
          subst hm
          show (layBA base).size ≤ _
          omega
    have ht2 : totF fs' ≤ k + (szOf (m' (picB dir n)) + 0) := ht
    omega
  have hfew := h2.few [lgB dir n, picB dir n] fun s v hv => by rcases hdom s v hv with rfl | ⟨_, rfl⟩ <;> simp
  simp only [List.length_cons, List.length_nil] at hfew
  refine ⟨fs', m', G', h1, h2, hG', hpic, hz, hb, .inr ⟨_, _, k3, c1, c2, c3, fun _ => by rw [hxs], fun _ => by rw [hxs]; omega⟩, fun s v hv => ?_, by omega⟩
  rcases hdom s v hv with e | e
  · exact .inl e
  · exact .inr (.inl e)
theorem crash_A (hN : Names dir n) (keep : List Int) (h : st.Ok) (hfs : st.fs = fs) (hA : CrA dir n base G fs) (hz : n = 0 → base = ⟨#[]⟩) (hb : base.size ≤ 150000) (hG : ∀ s ∈ G, FitG s) :
    ∃ fs' m', On1 (restoreD (crashD st keep)) fs' ∧ Files fs' m' ∧ Opn dir n base G fs' m' := by
  have hnn := hN.nn
  obtain ⟨v, hF, _⟩ := hA
  obtain ⟨fs', m', h1, h2, h3, h4⟩ := crash_st keep h hfs hF
  have hdom : ∀ s u, m' s = some u → s = lgB dir n ∨ (n ≠ 0 ∧ s = picB dir n) ∨ s = workB dir := fun s u hu => by
    cases hm : ((qm dir n base G).set (workB dir) v) s with
    | none => rw [h3 s hm] at hu; cases hu
    | some u' =>
      by_cases e : s = workB dir
      · exact .inr (.inr e)
      · rw [Fm.set_other _ _ e] at hm
        rcases qm_dom hm with h | h
        · exact .inl h
        · exact .inr (.inl h)
  have hpic : n ≠ 0 → m' (picB dir n) = some (layBA base, ((layBA base).size : Int)) := fun h0 => by
    obtain ⟨j, j1, j2, j3⟩ := h4 (picB dir n) (layBA base) ((layBA base).size : Int) (by rw [Fm.set_other _ _ pic_ne_work, qm_pic h0])
    rw [j3, whole_cut (by omega) j2]
  have hlg : m' (lgB dir n) = some (fileOf G, ((fileOf G).size : Int)) := by
    obtain ⟨j, j1, j2, j3⟩ := h4 (lgB dir n) (fileOf G) ((fileOf G).size : Int) (by rw [Fm.set_other _ _ lg_ne_work, qm_lg])
    rw [j3, whole_cut (by omega) j2]
  have hfew := h2.few [lgB dir n, picB dir n, workB dir] fun s v hv => by rcases hdom s v hv with rfl | ⟨_, rfl⟩ | rfl <;> simp
  simp only [List.length_cons, List.length_nil] at hfew
  refine ⟨fs', m', h1, h2, hpic, hz, hb, opn_log_whole hG hlg, fun s v hv => ?_, by omega⟩
  rcases hdom s v hv with e | e | rfl
  · exact .inl e
  · exact .inr (.inl e)
  · exact .inr (.inr ⟨old_work dir n, fun e => spare_ne_work _ e.symm, fun h => by rw [num_work] at h; cases h⟩)
theorem crash_B (hN : Names dir (n + 1)) (keep : List Int) (h : st.Ok) (hfs : st.fs = fs) (hB : CrB dir n base G state fs) (hs : state.size ≤ 150000) :
    ∃ fs' m', On1 (restoreD (crashD st keep)) fs' ∧ Files fs' m' ∧ Opn dir (n + 1) state [] fs' m' := by
  have hnn := hN.nn
  obtain ⟨m, hF, hp, hl, hd⟩ := hB
  obtain ⟨fs', m', h1, h2, h3, h4⟩ := crash_st keep h hfs hF
  have hdom : ∀ s u, m' s = some u → s = picB dir (n + 1) ∨ s = lgB dir (n + 1) ∨ (s = picB dir n ∧ n ≠ 0) ∨ s = lgB dir n := fun s u hu => by
    cases hm : m s with
    | none => rw [h3 s hm] at hu; cases hu
    | some u' => exact hd s u' hm
  have hpic : m' (picB dir (n + 1)) = some (layBA state, ((layBA state).size : Int)) := by
    obtain ⟨j, j1, j2, j3⟩ := h4 _ _ _ hp
    rw [j3, whole_cut (by omega) j2]
  have hfew := h2.few [picB dir (n + 1), lgB dir (n + 1), picB dir n, lgB dir n] fun s v hv => by rcases hdom s v hv with rfl | rfl | ⟨rfl, _⟩ | rfl <;> simp
  simp only [List.length_cons, List.length_nil] at hfew
  refine ⟨fs', m', h1, h2, fun _ => hpic, fun e => by omega, hs, ?_, fun s v hv => ?_, by omega⟩
  · rcases hl with hl | hl
    · exact .inl ⟨h3 _ hl, rfl⟩
    · obtain ⟨j, j1, j2, j3⟩ := h4 _ _ _ hl
      have hj : j = 0 := by have : (⟨#[]⟩ : ByteArray).size = 0 := rfl; omega
      subst hj
      refine opn_log_whole (by simp) ?_
      rw [j3, fileOf_nil]
      rfl
  · rcases hdom s v hv with rfl | rfl | ⟨rfl, h0⟩ | rfl
    · exact .inr (.inl ⟨by omega, rfl⟩)
    · exact .inl rfl
    · refine .inr (.inr ⟨?_, fun e => spare_ne_pic (by omega) _ e.symm, fun _ => by rw [num_pic dir (by omega)]; show ((n : Nat) : Int) ≤ _; omega⟩)
      rw [old_pic dir (n + 1) (by omega)]
      simp
      left; omega
    · refine .inr (.inr ⟨?_, fun e => spare_ne_lg (by omega) _ e.symm, fun h => by rw [num_lg] at h; cases h⟩)
      rw [old_lg dir (n + 1) (by omega)]
      simp
      omega
end
end Go.Proofs.YtjhinifmdjlblaaGreat
