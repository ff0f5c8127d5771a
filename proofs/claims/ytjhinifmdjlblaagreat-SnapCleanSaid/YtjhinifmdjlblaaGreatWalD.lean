/-
  Package wal, the plain law on a disk with one file: what Open and Commit make of groups, of what is broken behind them, and when the power fails.
  Conditions: a name that can be a file's, its spare one too; files of at most 400000 bytes.
-/
import Derived.Test.YtjhinifmdjlblaaGreatWal9
namespace Go.Proofs.YtjhinifmdjlblaaGreat
open Go.RowKit Go.Maps Go.Sort

/-- A disk that has power and no fuse, and these files. -/
structure On1 (st : Dk) (fs : DataW Unit) : Prop where
  ok : st.Ok
  on : st.on = true
  fu : st.fused = false
  fs_ : st.fs = fs
theorem on1_new : On1 newDk (.map []) := ⟨newDk_ok, rfl, rfl, rfl⟩
theorem opD_on1 {st : Dk} {fs : DataW Unit} (h : On1 st fs) : ∃ st1, opD st = (st1, false) ∧ On1 st1 fs := by
  have h1 := opD_ok h.ok
  have e : opD st = (⟨st.on, false, st.left, min (st.ops + 1) 4611686018427387904, st.fs⟩, false) := by unfold opD; rw [if_neg (by rw [h.fu]; decide)]
  rw [e] at h1
  exact ⟨_, e, h1, h.on, rfl, h.fs_⟩
theorem doD_on1 {st : Dk} {fs : DataW Unit} (h : On1 st fs) (W : Dk → Int) (K : Dk → Dk) : ∃ st1, On1 st1 fs ∧ doD st W K = if W st1 = 0 then (0, K st1) else (W st1, st1) := by
  obtain ⟨st1, e, h1⟩ := opD_on1 h
  refine ⟨st1, h1, ?_⟩
  unfold doD
  rw [if_pos h.on, e, if_neg (show ¬ (false = true) by decide)]
theorem On1.with_ {st : Dk} {fs fs' : DataW Unit} (h : On1 st fs) (ok : (st.with fs').Ok) : On1 (st.with fs') fs' := ⟨ok, h.on, h.fu, rfl⟩
theorem create_on1 {st : Dk} {fs : DataW Unit} (h : On1 st fs) {s : ByteArray} (hv : validB s = true) (hh : hasS fs s = false) (hz : Maps.size fs < 40) : ∃ st', createD st s = (0, st') ∧ On1 st' (putF fs s ⟨#[]⟩ 0) := by
  have hok := create_ok h.ok s
  obtain ⟨st1, h1, e⟩ := doD_on1 h (fun x => createW x s) (fun x => x.with (putF x.fs s ⟨#[]⟩ 0))
  have hw : createW st1 s = 0 := by unfold createW; rw [if_pos hv, h1.fs_, if_neg (by rw [hh]; decide), if_neg (by omega)]
  unfold createD at hok ⊢
  rw [e] at hok ⊢
  simp only [hw, if_true] at hok ⊢
  exact ⟨_, rfl, hok, h1.on, h1.fu, by show putF st1.fs s _ _ = _; rw [h1.fs_]⟩
theorem sync_on1 {st : Dk} {fs : DataW Unit} (h : On1 st fs) {s : ByteArray} (hh : hasS fs s = true) : ∃ st', syncD st s = (0, st') ∧ On1 st' (putF fs s (fileAt fs s).1 ((fileAt fs s).1.size : Nat)) := by
  have hok := sync_ok h.ok s
  obtain ⟨st1, h1, e⟩ := doD_on1 h (fun x => lacksD x s) (fun x => x.with (putF x.fs s (fileAt x.fs s).1 ((fileAt x.fs s).1.size : Nat)))
  have hw : lacksD st1 s = 0 := by unfold lacksD; rw [h1.fs_, if_pos hh]
  unfold syncD at hok ⊢
  rw [e] at hok ⊢
  simp only [hw, if_true] at hok ⊢
  exact ⟨_, rfl, hok, h1.on, h1.fu, by show putF st1.fs s (fileAt st1.fs s).1 _ = _; rw [h1.fs_]⟩
theorem rename_on1 {st : Dk} {fs : DataW Unit} (h : On1 st fs) {s t : ByteArray} (hh : hasS fs s = true) (hv : validB t = true) : ∃ st', renameD st s t = (0, st') ∧ On1 st' (putF (delF fs s) t (fileAt fs s).1 (fileAt fs s).2) := by
  have hok := rename_ok h.ok s t
  obtain ⟨st1, h1, e⟩ := doD_on1 h (fun x => renameW x s t) (fun x => x.with (putF (delF x.fs s) t (fileAt x.fs s).1 (fileAt x.fs s).2))
  have hw : renameW st1 s t = 0 := by unfold renameW; rw [h1.fs_, if_pos hh, if_pos hv]
  unfold renameD at hok ⊢
  rw [e] at hok ⊢
  simp only [hw, if_true] at hok ⊢
  exact ⟨_, rfl, hok, h1.on, h1.fu, by show putF (delF st1.fs s) t _ _ = _; rw [h1.fs_]⟩
/-- Append, whatever becomes of the power. -/
theorem append_gen {st : Dk} (hon : st.on = true) {s x : ByteArray} (hh : hasS st.fs s = true) (ht : totF st.fs + x.size ≤ 400000) :
    appendD st s x = (if (opD st).2 = true then 14 else 0, (opD st).1.with (putF st.fs s ((fileAt st.fs s).1 ++ x) (fileAt st.fs s).2)) := by
  have hf := opD_fs st
  have hw : appendW (opD st).1 s x = 0 := by unfold appendW; rw [hf, if_pos hh, if_neg (by omega)]
  unfold appendD
  rw [if_pos hon, hw]
  simp only [if_true]
  unfold putsD
  rw [hf]
theorem append_on1 {st : Dk} {fs : DataW Unit} (h : On1 st fs) {s x : ByteArray} (hh : hasS fs s = true) (ht : totF fs + x.size ≤ 400000) : ∃ st', appendD st s x = (0, st') ∧ On1 st' (putF fs s ((fileAt fs s).1 ++ x) (fileAt fs s).2) := by
  have hok := append_ok h.ok s x
  obtain ⟨st1, e, h1⟩ := opD_on1 h
  have hg := append_gen h.on (s := s) (x := x) (by rw [h.fs_]; exact hh) (by rw [h.fs_]; exact ht)
  rw [e, h.fs_] at hg
  rw [hg] at hok ⊢
  exact ⟨_, rfl, hok, h1.on, h1.fu, rfl⟩
/-! ### one file -/
theorem few_one (s x : ByteArray) (n : Int) : Maps.size (oneF s x n) = 1 := rfl
theorem sync_one {st : Dk} {s d : ByteArray} {n : Int} (h : On1 st (oneF s d n)) : ∃ st', syncD st s = (0, st') ∧ On1 st' (oneF s d (d.size : Nat)) := by
  obtain ⟨st', e, h'⟩ := sync_on1 h has_one
  rw [at_one, put_one] at h'
  exact ⟨st', e, h'⟩
theorem append_one {st : Dk} {s d : ByteArray} {n : Int} (h : On1 st (oneF s d n)) (x : ByteArray) (ht : d.size + x.size ≤ 400000) : ∃ st', appendD st s x = (0, st') ∧ On1 st' (oneF s (d ++ x) n) := by
  obtain ⟨st', e, h'⟩ := append_on1 h has_one (by rw [tot_one]; exact ht)
  rw [at_one, put_one] at h'
  exact ⟨st', e, h'⟩
/-- Two files, the spare one behind the other. -/
theorem key_other {s t : ByteArray} (h : t ≠ s) : (kS t).sameKey (kS s) = false := by
  rw [Bool.eq_false_iff]
  intro e
  have := WideAt.sameKey_eq e
  unfold kS at this
  injection this with h1
  exact h (of_data h1)
def mendsTo (s : ByteArray) (x : ByteArray) (st : Dk) : Prop := On1 st (oneF s x (x.size : Nat))
theorem mend_fs {s t d x : ByteArray} {n : Int} (h : t ≠ s) : putF (delF (putF (putF (putF (oneF s d n) t ⟨#[]⟩ 0) t x 0) t x (x.size : Nat)) t) s x (x.size : Nat) = oneF s x (x.size : Nat) := by
  have h2 := key_other (Ne.symm h)
  have h3 := key_self s
  have h4 := key_self t
  cases hb : (kS t).before (kS s) <;> simp [putF, delF, oneF, DataW.put, DataW.del, DataW.insert, h2, h3, h4, hb]
theorem hasF_put_self {D : DataW Unit} (hg : GoodF D) (s x : ByteArray) (n : Int) : hasS (putF D s x n) s = true := (hasF_put hg s x n s).2 (.inl rfl)
theorem mend_on {st : Dk} {s d y : ByteArray} {n : Int} {sz : Nat} (h : On1 st (oneF s d n)) (hv : validB s = true) (hv' : validB (spareOf s) = true) (hne : spareOf s ≠ s) (h0 : 0 ≤ n) (h1 : n ≤ (d.size : Int)) (hsz : sz ≤ y.size) (hd : d.size + sz ≤ 400000) :
    ∃ st', firstD (mendD s y sz) st = (0, st') ∧ On1 st' (oneF s (y.extract 0 sz) ((y.extract 0 sz).size : Nat)) := by
  have g0 : GoodF (oneF s d n) := good_one h0 h1
  have hx : (y.extract 0 sz).size = sz := by rw [Sm.extract_size _ _ _ hsz]; omega
  have e1 : removeIf (spareOf s) st = (0, st) := by unfold removeIf; rw [if_neg (by rw [h.fs_, not_one hne]; decide)]
  obtain ⟨s2, e2, h2⟩ := create_on1 h hv' (not_one hne) (by rw [few_one]; decide)
  have g2 : GoodF (putF (oneF s d n) (spareOf s) ⟨#[]⟩ 0) := g0.put _ _ (by omega) (by omega)
  have hh2 : hasS (putF (oneF s d n) (spareOf s) ⟨#[]⟩ 0) (spareOf s) = true := hasF_put_self g0 _ _ _
  have a2 : fileAt (putF (oneF s d n) (spareOf s) ⟨#[]⟩ 0) (spareOf s) = (⟨#[]⟩, 0) := fileAt_put_same g0 _ _ _
  have t2 : totF (putF (oneF s d n) (spareOf s) ⟨#[]⟩ 0) ≤ d.size := by
    have := totF_put_le g0 (spareOf s) ⟨#[]⟩ 0
    rw [tot_one] at this
    exact this
  obtain ⟨s3, e3, h3⟩ := append_on1 h2 (x := y.extract 0 sz) hh2 (by omega)
  rw [a2] at h3
  have hemp : (⟨#[]⟩ : ByteArray) ++ y.extract 0 sz = y.extract 0 sz := of_data (by rw [Sm.data_append]; rfl)
  rw [hemp] at h3
  have g3 : GoodF (putF (putF (oneF s d n) (spareOf s) ⟨#[]⟩ 0) (spareOf s) (y.extract 0 sz) 0) := g2.put _ _ (by omega) (by omega)
  have a3 : fileAt (putF (putF (oneF s d n) (spareOf s) ⟨#[]⟩ 0) (spareOf s) (y.extract 0 sz) 0) (spareOf s) = (y.extract 0 sz, 0) := fileAt_put_same g2 _ _ _
  obtain ⟨s4, e4, h4⟩ := sync_on1 h3 (s := spareOf s) (hasF_put_self g2 _ _ _)
  rw [a3] at h4
  obtain ⟨s5, e5, h5⟩ := rename_on1 h4 (s := spareOf s) (t := s) (hasF_put_self g3 _ _ _) hv
  rw [fileAt_put_same g3] at h5
  refine ⟨s5, ?_, ?_⟩
  · unfold mendD
    simp only [firstD, e1, e2, e3, e4, e5, if_true]
  · have hm := mend_fs (s := s) (t := spareOf s) (d := d) (x := y.extract 0 sz) (n := n) hne
    rw [← hm]
    exact h5
/-! ### groups in a file -/
def fileOf (G : List (List ByteArray)) : ByteArray := ⟨(Wal.file (G.map Sm.datas)).toArray⟩
def logOf (G : List (List ByteArray)) (br : Bool) : Lg := ⟨G.flatten, G.length, (fileOf G).size, br⟩
theorem file_data (G : List (List ByteArray)) : (fileOf G).data.toList = Wal.file (G.map Sm.datas) := rfl
theorem fileOf_nil : fileOf [] = ⟨#[]⟩ := rfl
theorem fileOf_snoc (G : List (List ByteArray)) (ss : List ByteArray) : fileOf (G ++ [ss]) = fileOf G ++ groupB ss := of_data (by
  rw [Sm.data_append, file_data, file_data, List.map_append, List.map_cons, List.map_nil, Wal.file_snoc]
  rfl)
theorem texts_datas (ss : List ByteArray) : Sm.texts (Sm.datas ss) = ss := by
  unfold Sm.texts Sm.datas
  rw [List.map_map]
  conv => rhs; rw [← List.map_id ss]
  rfl
theorem texts_flat (G : List (List ByteArray)) : Sm.texts (G.map Sm.datas).flatten = G.flatten := by
  induction G with
  | nil => rfl
  | cons l G ih => rw [List.map_cons, List.flatten_cons, List.flatten_cons, texts_append, ih, texts_datas]
/-- Groups that can be found again. -/
def FitG (ss : List ByteArray) : Prop := ss.length ≤ 9223372036854775807 ∧ longB ss = false
theorem fitG_fit {ss : List ByteArray} (h : FitG ss) : Wal.Fit (Sm.datas ss) := by
  refine ⟨by simpa [Sm.datas] using h.1, fun s hs => ?_⟩
  obtain ⟨t, ht, rfl⟩ := List.mem_map.1 hs
  have := h.2
  unfold longB at this
  rw [List.any_eq_false] at this
  have := this t ht
  rw [len_data]
  simpa using this
theorem fitG_all {G : List (List ByteArray)} (h : ∀ ss ∈ G, FitG ss) : ∀ l ∈ G.map Sm.datas, Wal.Fit l := fun l hl => by
  obtain ⟨ss, hs, rfl⟩ := List.mem_map.1 hl
  exact fitG_fit (h ss hs)
theorem lg_back (G : List (List ByteArray)) (br : Bool) : lgOf ⟨(G.map Sm.datas).flatten, (G.map Sm.datas).length, (Wal.file (G.map Sm.datas)).length⟩ br = logOf G br := by
  unfold lgOf logOf
  simp only [texts_flat, List.length_map]
  congr 1
theorem goodOf_tailB {G : List (List ByteArray)} (h : ∀ ss ∈ G, FitG ss) {x : ByteArray} (hx : x.size < 8) : lgOf (Wal.goodOf (fileOf G ++ x).data.toList) false = logOf G false ∧ (Wal.goodOf (fileOf G ++ x).data.toList).size = (fileOf G).size := by
  rw [Sm.data_append, file_data, Wal.goodOf_tail (fitG_all h) (by rw [len_data]; exact hx), lg_back]
  exact ⟨rfl, by show (Wal.file (G.map Sm.datas)).length = _; rw [← file_data, len_data]⟩
theorem goodOf_wholeB {G : List (List ByteArray)} (h : ∀ ss ∈ G, FitG ss) : lgOf (Wal.goodOf (fileOf G).data.toList) false = logOf G false ∧ (Wal.goodOf (fileOf G).data.toList).size = (fileOf G).size := by
  rw [file_data, Wal.goodOf_whole (fitG_all h), lg_back]
  exact ⟨rfl, by show (Wal.file (G.map Sm.datas)).length = _; rw [← file_data, len_data]⟩
theorem goodOf_cutB {G : List (List ByteArray)} (h : ∀ ss ∈ G, FitG ss) {ss : List ByteArray} (hs : FitG ss) {k : Nat} (hk : k < (groupB ss).size) : lgOf (Wal.goodOf (fileOf G ++ (groupB ss).extract 0 k).data.toList) false = logOf G false ∧ (Wal.goodOf (fileOf G ++ (groupB ss).extract 0 k).data.toList).size = (fileOf G).size := by
  have e : ((groupB ss).extract 0 k).data.toList = (Wal.group (Sm.datas ss)).take k := by
    rw [Sm.extract_data']
    simp [groupB]
  rw [Sm.data_append, file_data, e, Wal.goodOf_cut (fitG_all h) (fitG_fit hs) (by rw [← groupB_size]; exact hk), lg_back]
  exact ⟨rfl, by show (Wal.file (G.map Sm.datas)).length = _; rw [← file_data, len_data]⟩
/-! ### Open -/
theorem open_fresh {st : Dk} {s : ByteArray} (h : On1 st (.map [])) (hv : validB s = true) : ∃ st', openD s st = (0, st', some Wal.none_) ∧ On1 st' (oneF s ⟨#[]⟩ 0) := by
  obtain ⟨st', e, h'⟩ := create_on1 h hv rfl (by decide)
  rw [put_none] at h'
  have hr : readD st s = (⟨#[]⟩, 7) := by
    unfold readD lacksD
    rw [if_pos h.on, h.fs_]
    rfl
  refine ⟨st', ?_, h'⟩
  unfold openD
  rw [hr]
  simp only [e, if_true]
  rfl
theorem read_one {st : Dk} {s d : ByteArray} {n : Int} (h : On1 st (oneF s d n)) : readD st s = (d, 0) := by
  unfold readD lacksD
  rw [if_pos h.on, h.fs_, at_one, if_pos has_one]
theorem open_good {st : Dk} {s d : ByteArray} {n : Int} (h : On1 st (oneF s d n)) (hg : (Wal.goodOf d.data.toList).size = d.size) : openD s st = (0, st, some (Wal.goodOf d.data.toList)) := by
  unfold openD
  rw [read_one h, if_neg (show ¬ ((0 : Int) = 7) by decide)]
  simp only [if_true]
  rw [if_neg (by omega)]
theorem open_mend {st : Dk} {s d : ByteArray} {n : Int} (h : On1 st (oneF s d n)) (hv : validB s = true) (hv' : validB (spareOf s) = true) (hne : spareOf s ≠ s) (h0 : 0 ≤ n) (h1 : n ≤ (d.size : Int)) (hg : (Wal.goodOf d.data.toList).size < d.size) (hd : d.size ≤ 200000) :
    ∃ st', openD s st = (0, st', some (Wal.goodOf d.data.toList)) ∧ On1 st' (oneF s (d.extract 0 (Wal.goodOf d.data.toList).size) ((d.extract 0 (Wal.goodOf d.data.toList).size).size : Nat)) := by
  obtain ⟨st', e, h'⟩ := mend_on h hv hv' hne h0 h1 (y := d) (sz := (Wal.goodOf d.data.toList).size) (by omega) (by omega)
  refine ⟨st', ?_, h'⟩
  unfold openD
  rw [read_one h, if_neg (show ¬ ((0 : Int) = 7) by decide)]
  simp only [if_true]
  rw [if_pos hg, e]
  simp only [if_true]
/-! ### Commit -/
theorem commit_empty (nm : ByteArray) (G : List (List ByteArray)) (st : Dk) : commitR nm (logOf G false) st [] = (0, logOf G false, st) := by
  unfold commitR
  rw [if_neg (show ¬ ((logOf G false).broken = true) from Bool.false_ne_true), if_neg (show ¬ (longB [] = true) from Bool.false_ne_true), if_pos (show ([] : List ByteArray).length = 0 from rfl)]
theorem commit_broken (nm : ByteArray) (lg : Lg) (st : Dk) (ss : List ByteArray) (h : lg.broken = true) : commitR nm lg st ss = (14, lg, st) := by
  unfold commitR
  rw [if_pos h]
theorem commit_long (nm : ByteArray) (G : List (List ByteArray)) (st : Dk) (ss : List ByteArray) (h : longB ss = true) : commitR nm (logOf G false) st ss = (2, logOf G false, st) := by
  unfold commitR
  rw [if_neg (show ¬ ((logOf G false).broken = true) from Bool.false_ne_true), if_pos h]
theorem commit_of {nm : ByteArray} {G : List (List ByteArray)} {st st' : Dk} {ss : List ByteArray} {x : Int} (hl : longB ss = false) (hn : ss.length ≠ 0) (h : firstD (commitD nm (groupB ss)) st = (x, st')) :
    commitR nm (logOf G false) st ss = if x = 0 then (0, logOf (G ++ [ss]) false, st') else (x, logOf G true, st') := by
  unfold commitR
  rw [if_neg (show ¬ ((logOf G false).broken = true) from Bool.false_ne_true), if_neg (by rw [hl]; decide), if_neg hn, h]
  simp only
  split
  · unfold logOf
    simp only [List.flatten_append, List.flatten_cons, List.flatten_nil, List.append_nil, List.length_append, List.length_cons, List.length_nil, fileOf_snoc, size_app']
  · rfl
theorem commit_on {nm : ByteArray} {G : List (List ByteArray)} {st : Dk} {ss : List ByteArray} {n : Int} (h : On1 st (oneF nm (fileOf G) n)) (hl : longB ss = false) (hn : ss.length ≠ 0) (hd : (fileOf G).size + (groupB ss).size ≤ 400000) :
    ∃ st', commitR nm (logOf G false) st ss = (0, logOf (G ++ [ss]) false, st') ∧ On1 st' (oneF nm (fileOf (G ++ [ss])) ((fileOf (G ++ [ss])).size : Nat)) := by
  obtain ⟨s1, e1, h1⟩ := append_one h (groupB ss) hd
  obtain ⟨s2, e2, h2⟩ := sync_one h1
  have hf : firstD (commitD nm (groupB ss)) st = (0, s2) := by
    unfold commitD
    simp only [firstD, e1, e2, if_true]
  refine ⟨s2, ?_, ?_⟩
  · rw [commit_of hl hn hf, if_pos rfl]
  · rw [fileOf_snoc]
    exact h2
end Go.Proofs.YtjhinifmdjlblaaGreat
