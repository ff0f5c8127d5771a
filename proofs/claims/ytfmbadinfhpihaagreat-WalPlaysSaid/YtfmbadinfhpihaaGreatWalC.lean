/-
  Package wal on a disk with one file: Open and Commit as contracts in groups; chapter 6's first call.
  Conditions: disks and logs that the call has made; files of at most 200000 bytes.
-/
import Derived.Test.YtfmbadinfhpihaaGreatWal9
set_option linter.unusedVariables false
set_option linter.unusedSimpArgs false
namespace Go.Proofs.YtfmbadinfhpihaaGreat
open Go.RowKit Go.Maps Go.Sort

/-- A disk that has power and no fuse, and these files. -/
structure On1 (st : Dk) (fs : DataW Unit) : Prop where
  ok : st.Ok
  on : st.on = true
  fu : st.fused = false
  fs_ : st.fs = fs
theorem on1_new : On1 newDk (.map []) := ⟨newDk_ok, rfl, rfl, rfl⟩
theorem opD_on1 {st : Dk} {fs : DataW Unit} (h : On1 st fs) : ∃ st1, opD st = (st1, false) ∧ On1 st1 fs := by
  have h1 := opD_ok h.ok
  have e : opD st = (⟨st.on, false, st.left, min (st.ops + 1) 4611686018427387904, st.fs⟩, false) := by unfold opD; rw [if_neg (by rw [h.fu]; decide)]
  rw [e] at h1
  exact ⟨_, e, h1, h.on, rfl, h.fs_⟩
theorem doD_on1 {st : Dk} {fs : DataW Unit} (h : On1 st fs) (W : Dk → Int) (K : Dk → Dk) : ∃ st1, On1 st1 fs ∧ doD st W K = if W st1 = 0 then (0, K st1) else (W st1, st1) := by
  obtain ⟨st1, e, h1⟩ := opD_on1 h
  refine ⟨st1, h1, ?_⟩
  unfold doD
  rw [if_pos h.on, e, if_neg (show ¬ (false = true) by decide)]
theorem On1.with_ {st : Dk} {fs fs' : DataW Unit} (h : On1 st fs) (ok : (st.with fs').Ok) : On1 (st.with fs') fs' := ⟨ok, h.on, h.fu, rfl⟩
theorem create_on1 {st : Dk} {fs : DataW Unit} (h : On1 st fs) {s : ByteArray} (hv : validB s = true) (hh : hasS fs s = false) (hz : Maps.size fs < 40) : ∃ st', createD st s = (0, st') ∧ On1 st' (putF fs s ⟨#[]⟩ 0) := by
  have hok := create_ok h.ok s
  obtain ⟨st1, h1, e⟩ := doD_on1 h (fun x => createW x s) (fun x => x.with (putF x.fs s ⟨#[]⟩ 0))
  have hw : createW st1 s = 0 := by unfold createW; rw [if_pos hv, h1.fs_, if_neg (by rw [hh]; decide), if_neg (by omega)]
  unfold createD at hok ⊢
  rw [e] at hok ⊢
  simp only [hw, if_true] at hok ⊢
  exact ⟨_, rfl, hok, h1.on, h1.fu, by show putF st1.fs s _ _ = _; rw [h1.fs_]⟩
theorem sync_on1 {st : Dk} {fs : DataW Unit} (h : On1 st fs) {s : ByteArray} (hh : hasS fs s = true) : ∃ st', syncD st s = (0, st') ∧ On1 st' (putF fs s (fileAt fs s).1 ((fileAt fs s).1.size : Nat)) := by
  have hok := sync_ok h.ok s
  obtain ⟨st1, h1, e⟩ := doD_on1 h (fun x => lacksD x s) (fun x => x.with (putF x.fs s (fileAt x.fs s).1 ((fileAt x.fs s).1.size : Nat)))
  have hw : lacksD st1 s = 0 := by unfold lacksD; rw [h1.fs_, if_pos hh]
  unfold syncD at hok ⊢
  rw [e] at hok ⊢
  simp only [hw, if_true] at hok ⊢
  exact ⟨_, rfl, hok, h1.on, h1.fu, by show putF st1.fs s (fileAt st1.fs s).1 _ = _; rw [h1.fs_]⟩
theorem rename_on1 {st : Dk} {fs : DataW Unit} (h : On1 st fs) {s t : ByteArray} (hh : hasS fs s = true) (hv : validB t = true) : ∃ st', renameD st s t = (0, st') ∧ On1 st' (putF (delF fs s) t (fileAt fs s).1 (fileAt fs s).2) := by
  have hok := rename_ok h.ok s t
  obtain ⟨st1, h1, e⟩ := doD_on1 h (fun x => renameW x s t) (fun x => x.with (putF (delF x.fs s) t (fileAt x.fs s).1 (fileAt x.fs s).2))
  have hw : renameW st1 s t = 0 := by unfold renameW; rw [h1.fs_, if_pos hh, if_pos hv]
  unfold renameD at hok ⊢
  rw [e] at hok ⊢
  simp only [hw, if_true] at hok ⊢
  exact ⟨_, rfl, hok, h1.on, h1.fu, by show putF (delF st1.fs s) t _ _ = _; rw [h1.fs_]⟩
/-- Append, whatever becomes of the power. -/
theorem append_gen {st : Dk} (hon : st.on = true) {s x : ByteArray} (hh : hasS st.fs s = true) (ht : totF st.fs + x.size ≤ 400000) :
    appendD st s x = (if (opD st).2 = true then 14 else 0, (opD st).1.with (putF st.fs s ((fileAt st.fs s).1 ++ x) (fileAt st.fs s).2)) := by
  have hf := opD_fs st
  have hw : appendW (opD st).1 s x = 0 := by unfold appendW; rw [hf, if_pos hh, if_neg (by omega)]
  unfold appendD
  rw [if_pos hon, hw]
  simp only [if_true]
  unfold putsD
  rw [hf]
theorem append_on1 {st : Dk} {fs : DataW Unit} (h : On1 st fs) {s x : ByteArray} (hh : hasS fs s = true) (ht : totF fs + x.size ≤ 400000) : ∃ st', appendD st s x = (0, st') ∧ On1 st' (putF fs s ((fileAt fs s).1 ++ x) (fileAt fs s).2) := by
  have hok := append_ok h.ok s x
  obtain ⟨st1, e, h1⟩ := opD_on1 h
  have hg := append_gen h.on (s := s) (x := x) (by rw [h.fs_]; exact hh) (by rw [h.fs_]; exact ht)
  rw [e, h.fs_] at hg
  rw [hg] at hok ⊢
  exact ⟨_, rfl, hok, h1.on, h1.fu, rfl⟩
/-! ### one file -/
theorem few_one (s x : ByteArray) (n : Int) : Maps.size (oneF s x n) = 1 := rfl
theorem sync_one {st : Dk} {s d : ByteArray} {n : Int} (h : On1 st (oneF s d n)) : ∃ st', syncD st s = (0, st') ∧ On1 st' (oneF s d (d.size : Nat)) := by
  obtain ⟨st', e, h'⟩ := sync_on1 h has_one
  rw [at_one, put_one] at h'
  exact ⟨st', e, h'⟩
theorem append_one {st : Dk} {s d : ByteArray} {n : Int} (h : On1 st (oneF s d n)) (x : ByteArray) (ht : d.size + x.size ≤ 400000) : ∃ st', appendD st s x = (0, st') ∧ On1 st' (oneF s (d ++ x) n) := by
  obtain ⟨st', e, h'⟩ := append_on1 h has_one (by rw [tot_one]; exact ht)
  rw [at_one, put_one] at h'
  exact ⟨st', e, h'⟩
/-- Two files, the spare one behind the other. -/
theorem key_other {s t : ByteArray} (h : t ≠ s) : (kS t).sameKey (kS s) = false := by
  rw [Bool.eq_false_iff]
  intro e
  have := WideAt.sameKey_eq e
  unfold kS at this
  injection this with h1
  exact h (of_data h1)
def mendsTo (s : ByteArray) (x : ByteArray) (st : Dk) : Prop := On1 st (oneF s x (x.size : Nat))
theorem mend_fs {s t d x : ByteArray} {n : Int} (h : t ≠ s) : putF (delF (putF (putF (putF (oneF s d n) t ⟨#[]⟩ 0) t x 0) t x (x.size : Nat)) t) s x (x.size : Nat) = oneF s x (x.size : Nat) := by
  have h2 := key_other (Ne.symm h)
  have h3 := key_self s
  have h4 := key_self t
  cases hb : (kS t).before (kS s) <;> simp [putF, delF, oneF, DataW.put, DataW.del, DataW.insert, h2, h3, h4, hb]
theorem hasF_put_self {D : DataW Unit} (hg : GoodF D) (s x : ByteArray) (n : Int) : hasS (putF D s x n) s = true := (hasF_put hg s x n s).2 (.inl rfl)
theorem mend_on {st : Dk} {s d y : ByteArray} {n : Int} {sz : Nat} (h : On1 st (oneF s d n)) (hv : validB s = true) (hv' : validB (spareOf s) = true) (hne : spareOf s ≠ s) (h0 : 0 ≤ n) (h1 : n ≤ (d.size : Int)) (hsz : sz ≤ y.size) (hd : d.size + sz ≤ 400000) :
    ∃ st', firstD (mendD s y sz) st = (0, st') ∧ On1 st' (oneF s (y.extract 0 sz) ((y.extract 0 sz).size : Nat)) := by
  have g0 : GoodF (oneF s d n) := good_one h0 h1
  have hx : (y.extract 0 sz).size = sz := by rw [Sm.extract_size _ _ _ hsz]; omega
  have e1 : removeIf (spareOf s) st = (0, st) := by unfold removeIf; rw [if_neg (by rw [h.fs_, not_one hne]; decide)]
  obtain ⟨s2, e2, h2⟩ := create_on1 h hv' (not_one hne) (by rw [few_one]; decide)
  have g2 : GoodF (putF (oneF s d n) (spareOf s) ⟨#[]⟩ 0) := g0.put _ _ (by omega) (by omega)
  have hh2 : hasS (putF (oneF s d n) (spareOf s) ⟨#[]⟩ 0) (spareOf s) = true := hasF_put_self g0 _ _ _
  have a2 : fileAt (putF (oneF s d n) (spareOf s) ⟨#[]⟩ 0) (spareOf s) = (⟨#[]⟩, 0) := fileAt_put_same g0 _ _ _
  have t2 : totF (putF (oneF s d n) (spareOf s) ⟨#[]⟩ 0) ≤ d.size := by
    have := totF_put_le g0 (spareOf s) ⟨#[]⟩ 0
    rw [tot_one] at this
    exact this
  obtain ⟨s3, e3, h3⟩ := append_on1 h2 (x := y.extract 0 sz) hh2 (by omega)
  rw [a2] at h3
  have hemp : (⟨#[]⟩ : ByteArray) ++ y.extract 0 sz = y.extract 0 sz := of_data (by rw [Sm.data_append]; rfl)
  rw [hemp] at h3
  have g3 : GoodF (putF (putF (oneF s d n) (spareOf s) ⟨#[]⟩ 0) (spareOf s) (y.extract 0 sz) 0) := g2.put _ _ (by omega) (by omega)
  have a3 : fileAt (putF (putF (oneF s d n) (spareOf s) ⟨#[]⟩ 0) (spareOf s) (y.extract 0 sz) 0) (spareOf s) = (y.extract 0 sz, 0) := fileAt_put_same g2 _ _ _
  obtain ⟨s4, e4, h4⟩ := sync_on1 h3 (s := spareOf s) (hasF_put_self g2 _ _ _)
  rw [a3] at h4
  obtain ⟨s5, e5, h5⟩ := rename_on1 h4 (s := spareOf s) (t := s) (hasF_put_self g3 _ _ _) hv
  rw [fileAt_put_same g3] at h5
  refine ⟨s5, ?_, ?_⟩
  · unfold mendD
    simp only [firstD, e1, e2, e3, e4, e5, if_true]
  · have hm := mend_fs (s := s) (t := spareOf s) (d := d) (x := y.extract 0 sz) (n := n) hne
    rw [← hm]
    exact h5
/-! ### groups in a file -/
def fileOf (G : List (List ByteArray)) : ByteArray := ⟨(Wal.file (G.map Sm.datas)).toArray⟩
def logOf (G : List (List ByteArray)) (br : Bool) : Lg := ⟨G.flatten, G.length, (fileOf G).size, br⟩
theorem file_data (G : List (List ByteArray)) : (fileOf G).data.toList = Wal.file (G.map Sm.datas) := rfl
theorem fileOf_nil : fileOf [] = ⟨#[]⟩ := rfl
theorem fileOf_snoc (G : List (List ByteArray)) (ss : List ByteArray) : fileOf (G ++ [ss]) = fileOf G ++ groupB ss := of_data (by
  rw [Sm.data_append, file_data, file_data, List.map_append, List.map_cons, List.map_nil, Wal.file_snoc]
  rfl)
theorem texts_datas (ss : List ByteArray) : Sm.texts (Sm.datas ss) = ss := by
  unfold Sm.texts Sm.datas
  rw [List.map_map]
  conv => rhs; rw [← List.map_id ss]
  rfl
theorem texts_flat (G : List (List ByteArray)) : Sm.texts (G.map Sm.datas).flatten = G.flatten := by
  induction G with
  | nil => rfl
  | cons l G ih => rw [List.map_cons, List.flatten_cons, List.flatten_cons, texts_append, ih, texts_datas]
/-- Groups that can be found again. -/
def FitG (ss : List ByteArray) : Prop := ss.length ≤ 9223372036854775807 ∧ longB ss = false
theorem fitG_fit {ss : List ByteArray} (h : FitG ss) : Wal.Fit (Sm.datas ss) := by
  refine ⟨by simpa [Sm.datas] using h.1, fun s hs => ?_⟩
  obtain ⟨t, ht, rfl⟩ := List.mem_map.1 hs
  have := h.2
  unfold longB at this
  rw [List.any_eq_false] at this
  have := this t ht
  rw [len_data]
  simpa using this
theorem fitG_all {G : List (List ByteArray)} (h : ∀ ss ∈ G, FitG ss) : ∀ l ∈ G.map Sm.datas, Wal.Fit l := fun l hl => by
  obtain ⟨ss, hs, rfl⟩ := List.mem_map.1 hl
  exact fitG_fit (h ss hs)
theorem lg_back (G : List (List ByteArray)) (br : Bool) : lgOf ⟨(G.map Sm.datas).flatten, (G.map Sm.datas).length, (Wal.file (G.map Sm.datas)).length⟩ br = logOf G br := by
  unfold lgOf logOf
  simp only [texts_flat, List.length_map]
  congr 1
theorem goodOf_tailB {G : List (List ByteArray)} (h : ∀ ss ∈ G, FitG ss) {x : ByteArray} (hx : x.size < 8) : lgOf (Wal.goodOf (fileOf G ++ x).data.toList) false = logOf G false ∧ (Wal.goodOf (fileOf G ++ x).data.toList).size = (fileOf G).size := by
  rw [Sm.data_append, file_data, Wal.goodOf_tail (fitG_all h) (by rw [len_data]; exact hx), lg_back]
  exact ⟨rfl, by show (Wal.file (G.map Sm.datas)).length = _; rw [← file_data, len_data]⟩
theorem goodOf_wholeB {G : List (List ByteArray)} (h : ∀ ss ∈ G, FitG ss) : lgOf (Wal.goodOf (fileOf G).data.toList) false = logOf G false ∧ (Wal.goodOf (fileOf G).data.toList).size = (fileOf G).size := by
  rw [file_data, Wal.goodOf_whole (fitG_all h), lg_back]
  exact ⟨rfl, by show (Wal.file (G.map Sm.datas)).length = _; rw [← file_data, len_data]⟩
theorem goodOf_cutB {G : List (List ByteArray)} (h : ∀ ss ∈ G, FitG ss) {ss : List ByteArray} (hs : FitG ss) {k : Nat} (hk : k < (groupB ss).size) : lgOf (Wal.goodOf (fileOf G ++ (groupB ss).extract 0 k).data.toList) false = logOf G false ∧ (Wal.goodOf (fileOf G ++ (groupB ss).extract 0 k).data.toList).size = (fileOf G).size := by
  have e : ((groupB ss).extract 0 k).data.toList = (Wal.group (Sm.datas ss)).take k := by
    rw [Sm.extract_data']
    simp [groupB]
  rw [Sm.data_append, file_data, e, Wal.goodOf_cut (fitG_all h) (fitG_fit hs) (by rw [← groupB_size]; exact hk), lg_back]
  exact ⟨rfl, by show (Wal.file (G.map Sm.datas)).length = _; rw [← file_data, len_data]⟩
/-! ### Open -/
theorem open_fresh {st : Dk} {s : ByteArray} (h : On1 st (.map [])) (hv : validB s = true) : ∃ st', openD s st = (0, st', some Wal.none_) ∧ On1 st' (oneF s ⟨#[]⟩ 0) := by
  obtain ⟨st', e, h'⟩ := create_on1 h hv rfl (by decide)
  rw [put_none] at h'
  have hr : readD st s = (⟨#[]⟩, 7) := by
    unfold readD lacksD
    rw [if_pos h.on, h.fs_]
    rfl
  refine ⟨st', ?_, h'⟩
  unfold openD
  rw [hr]
  simp only [e, if_true]
  rfl
theorem read_one {st : Dk} {s d : ByteArray} {n : Int} (h : On1 st (oneF s d n)) : readD st s = (d, 0) := by
  unfold readD lacksD
  rw [if_pos h.on, h.fs_, at_one, if_pos has_one]
theorem open_good {st : Dk} {s d : ByteArray} {n : Int} (h : On1 st (oneF s d n)) (hg : (Wal.goodOf d.data.toList).size = d.size) : openD s st = (0, st, some (Wal.goodOf d.data.toList)) := by
  unfold openD
  rw [read_one h, if_neg (show ¬ ((0 : Int) = 7) by decide)]
  simp only [if_true]
  rw [if_neg (by omega)]
theorem open_mend {st : Dk} {s d : ByteArray} {n : Int} (h : On1 st (oneF s d n)) (hv : validB s = true) (hv' : validB (spareOf s) = true) (hne : spareOf s ≠ s) (h0 : 0 ≤ n) (h1 : n ≤ (d.size : Int)) (hg : (Wal.goodOf d.data.toList).size < d.size) (hd : d.size ≤ 200000) :
    ∃ st', openD s st = (0, st', some (Wal.goodOf d.data.toList)) ∧ On1 st' (oneF s (d.extract 0 (Wal.goodOf d.data.toList).size) ((d.extract 0 (Wal.goodOf d.data.toList).size).size : Nat)) := by
  obtain ⟨st', e, h'⟩ := mend_on h hv hv' hne h0 h1 (y := d) (sz := (Wal.goodOf d.data.toList).size) (by omega) (by omega)
  refine ⟨st', ?_, h'⟩
  unfold openD
  rw [read_one h, if_neg (show ¬ ((0 : Int) = 7) by decide)]
  simp only [if_true]
  rw [if_pos hg, e]
  simp only [if_true]
/-! ### Commit -/
theorem commit_empty (nm : ByteArray) (G : List (List ByteArray)) (st : Dk) : commitR nm (logOf G false) st [] = (0, logOf G false, st) := by
  unfold commitR
  rw [if_neg (show ¬ ((logOf G false).broken = true) from Bool.false_ne_true), if_neg (show ¬ (longB [] = true) from Bool.false_ne_true), if_pos (show ([] : List ByteArray).length = 0 from rfl)]
theorem commit_broken (nm : ByteArray) (lg : Lg) (st : Dk) (ss : List ByteArray) (h : lg.broken = true) : commitR nm lg st ss = (14, lg, st) := by
  unfold commitR
  rw [if_pos h]
theorem commit_long (nm : ByteArray) (G : List (List ByteArray)) (st : Dk) (ss : List ByteArray) (h : longB ss = true) : commitR nm (logOf G false) st ss = (2, logOf G false, st) := by
  unfold commitR
  rw [if_neg (show ¬ ((logOf G false).broken = true) from Bool.false_ne_true), if_pos h]
theorem commit_of {nm : ByteArray} {G : List (List ByteArray)} {st st' : Dk} {ss : List ByteArray} {x : Int} (hl : longB ss = false) (hn : ss.length ≠ 0) (h : firstD (commitD nm (groupB ss)) st = (x, st')) :
    commitR nm (logOf G false) st ss = if x = 0 then (0, logOf (G ++ [ss]) false, st') else (x, logOf G true, st') := by
  unfold commitR
  rw [if_neg (show ¬ ((logOf G false).broken = true) from Bool.false_ne_true), if_neg (by rw [hl]; decide), if_neg hn, h]
  simp only
  split
  · unfold logOf
    simp only [List.flatten_append, List.flatten_cons, List.flatten_nil, List.append_nil, List.length_append, List.length_cons, List.length_nil, fileOf_snoc, size_app']
  · rfl
theorem commit_on {nm : ByteArray} {G : List (List ByteArray)} {st : Dk} {ss : List ByteArray} {n : Int} (h : On1 st (oneF nm (fileOf G) n)) (hl : longB ss = false) (hn : ss.length ≠ 0) (hd : (fileOf G).size + (groupB ss).size ≤ 400000) :
    ∃ st', commitR nm (logOf G false) st ss = (0, logOf (G ++ [ss]) false, st') ∧ On1 st' (oneF nm (fileOf (G ++ [ss])) ((fileOf (G ++ [ss])).size : Nat)) := by
  obtain ⟨s1, e1, h1⟩ := append_one h (groupB ss) hd
  obtain ⟨s2, e2, h2⟩ := sync_one h1
  have hf : firstD (commitD nm (groupB ss)) st = (0, s2) := by
    unfold commitD
    simp only [firstD, e1, e2, if_true]
  refine ⟨s2, ?_, ?_⟩
  · rw [commit_of hl hn hf, if_pos rfl]
  · rw [fileOf_snoc]
    exact h2
end Go.Proofs.YtfmbadinfhpihaaGreat
namespace Go.Proofs.YtfmbadinfhpihaaGreat
open Go.RowKit Go.Maps Go.Sort
set_option maxRecDepth 100000

/-- A name that can be a log's. -/
structure LogName (nm : ByteArray) : Prop where
  v : validB nm = true
  v' : validB (spareOf nm) = true
  ne : spareOf nm ≠ nm
  sm : nm.size ≤ 1000000
/-- What Open hands back: a log with these groups, on a disk with its file alone. -/
def OpenG (c b : Nat) (nm : ByteArray) (G : List (List ByteArray)) (w : World) (e : Ending) (w' : World) : Prop :=
  ∃ g T st', e = .returned (.tuple #[.pointer (some ⟨g, 0, none⟩), .int .i64 0]) ∧ LogAt g c T nm (logOf G false) w' ∧ DkAt c b st' w' ∧ On1 st' (oneF nm (fileOf G) ((fileOf G).size : Nat)) ∧ (∀ k, k ∈ T → w.heap.size ≤ k) ∧ Mv [c, b] [c, b] w w'
theorem openA (c b : Nat) (nm : ByteArray) (hn : LogName nm) (st : Dk) (w : World) (hd : DkAt c b st w) (h : On1 st (.map [])) : Calls Tryz.prog 10 #[.pointer (some ⟨c, 0, none⟩), .string nm] w (OpenG c b nm [] w) := by
  obtain ⟨st', e, h'⟩ := open_fresh h hn.v
  have q := open_any c b nm st h.ok w hd hn.sm (by rw [h.fs_]; exact Nat.zero_le _)
  rw [e] at q
  refine q.mono ?_
  rintro r w' ⟨v, rfl, ⟨g, T, rfl, h1, h2⟩, h3, h4⟩
  exact ⟨g, T, st', rfl, h1, h3, h', h2, h4⟩
theorem openB (c b : Nat) (nm : ByteArray) (hn : LogName nm) (G : List (List ByteArray)) (x : ByteArray) (n : Int) (st : Dk) (w : World) (hd : DkAt c b st w) (h : On1 st (oneF nm (fileOf G ++ x) n)) (h0 : 0 ≤ n) (h1 : n ≤ ((fileOf G ++ x).size : Int))
    (hg : lgOf (Wal.goodOf (fileOf G ++ x).data.toList) false = logOf G false ∧ (Wal.goodOf (fileOf G ++ x).data.toList).size = (fileOf G).size) (hx : x.size = 0 → n = ((fileOf G).size : Nat)) (hz : (fileOf G).size + x.size ≤ 200000) :
    Calls Tryz.prog 10 #[.pointer (some ⟨c, 0, none⟩), .string nm] w (OpenG c b nm G w) := by
  have hs : (fileOf G ++ x).size = (fileOf G).size + x.size := size_app' _ _
  have q := open_any c b nm st h.ok w hd hn.sm (by rw [h.fs_, at_one]; show (fileOf G ++ x).size ≤ _; omega)
  by_cases hx0 : x.size = 0
  · have hxe : x = ⟨#[]⟩ := of_data (by have := len_data x; rw [hx0] at this; rw [List.eq_nil_of_length_eq_zero this])
    have hfe : fileOf G ++ x = fileOf G := of_data (by rw [Sm.data_append, hxe]; simp)
    rw [open_good h (by rw [hg.2, hs]; omega)] at q
    rw [hfe, hx hx0] at h
    refine q.mono ?_
    rintro r w' ⟨v, rfl, ⟨g, T, rfl, k1, k2⟩, k3, k4⟩
    rw [hg.1] at k1
    exact ⟨g, T, st, rfl, k1, k3, h, k2, k4⟩
  · obtain ⟨st', e, h'⟩ := open_mend h hn.v hn.v' hn.ne h0 h1 (by rw [hg.2, hs]; omega) (by omega)
    rw [e] at q
    have hcut : (fileOf G ++ x).extract 0 (fileOf G).size = fileOf G := of_data (by
      rw [Sm.extract_data', Sm.data_append, ← len_data]
      simp)
    rw [hg.2, hcut] at h'
    refine q.mono ?_
    rintro r w' ⟨v, rfl, ⟨g, T, rfl, k1, k2⟩, k3, k4⟩
    rw [hg.1] at k1
    exact ⟨g, T, st', rfl, k1, k3, h', k2, k4⟩
/-- A log's blocks are none of the disk's. -/
theorem LogAt.apart {g c b : Nat} {T : List Nat} {nm : ByteArray} {lg : Lg} {st : Dk} {w : World} (h : LogAt g c T nm lg w) (hd : DkAt c b st w) : ∀ k, k ∈ T → k ≠ c ∧ k ≠ b := by
  obtain ⟨v, rfl, h2, h3, h4⟩ := h
  obtain ⟨es, clock, hb, _⟩ := hd.2.1
  have hc := hd.1
  intro k hk
  simp only [List.mem_cons, Option.mem_toList] at hk
  rcases hk with rfl | hk
  · refine ⟨fun e => ?_, fun e => ?_⟩
    · subst e; rw [h2] at hc; injection hc with hc; injection hc with _ ht; exact absurd ht (by decide)
    · subst e; rw [h2] at hb; cases hb
  · rcases h3.2 with ⟨rfl, _⟩ | ⟨g', cap, cur, rfl, _, hh, _⟩
    · simp [Value.ownBlock] at hk
    · obtain rfl : g' = k := by simpa [Value.ownBlock] using hk
      refine ⟨fun e => ?_, fun e => ?_⟩
      · subst e; rw [hh] at hc; injection hc with hc; injection hc with _ ht; exact absurd ht (by decide)
      · subst e; rw [hh] at hb; cases hb
def CommitG (g c b : Nat) (T : List Nat) (nm : ByteArray) (w : World) (x : Int) (lg' : Lg) (st' : Dk) (e : Ending) (w' : World) : Prop :=
  ∃ T', e = .returned (.int .i64 x) ∧ LogAt g c T' nm lg' w' ∧ DkAt c b st' w' ∧ Mv (c :: b :: T) (c :: b :: T') w w'
/-- A commit of what lies in a slice. -/
theorem commit_at (g c b : Nat) (T : List Nat) (nm : ByteArray) (lg : Lg) (st : Dk) (ss : List ByteArray) (x : Int) (lg' : Lg) (st' : Dk) (hr : commitR nm lg st ss = (x, lg', st')) (hok : st.Ok) (n : Nat) (hn : ss.length = n) (A : Option Addr) (cp : Nat) (w : World) (h : LogAt g c T nm lg w) (hd : DkAt c b st w)
    (B : Nat) (hrd : Reads w B 1 A n (strs ss)) (hB : B ≤ w.heap.size) (hA : 0 < n → ∀ ad, A = some ad → ad.block ∉ T ∧ ad.block ≠ c ∧ ad.block ≠ b) (hnm : nm.size ≤ 1000000) (htot : total ss ≤ 50000000) (hL : n ≤ 1000000) (hrl : lg.recs.length ≤ 1000000) (hgl : lg.groups ≤ 1000000000) (hzl : lg.size ≤ 1000000000) :
    Calls Tryz.prog 11 #[.pointer (some ⟨g, 0, none⟩), .slice A n cp] w (CommitG g c b T nm w x lg' st') := by
  subst hn
  have q := commit_any g c b T nm lg st hok ss A cp w h hd (h.apart hd) (hrd.more hB) hA hnm htot hL (fun s hs => by have := size_le_total hs; omega) hrl hgl hzl
  rw [hr] at q
  exact q
/-- A commit of what lies in a new block. -/
theorem commit_lit (g c b : Nat) (T : List Nat) (nm : ByteArray) (lg : Lg) (st : Dk) (ss : List ByteArray) (x : Int) (lg' : Lg) (st' : Dk) (hr : commitR nm lg st ss = (x, lg', st')) (hok : st.Ok) (n : Nat) (hn : ss.length = n) (cs : Array Value) (hcs : cs.toList = strs ss) (t : TypeId) (s cp : Nat) (w : World) (hs : s = w.heap.size) (h : LogAt g c T nm lg w) (hd : DkAt c b st w)
    (hnm : nm.size ≤ 1000000) (htot : total ss ≤ 50000000) (hL : n ≤ 1000000) (hrl : lg.recs.length ≤ 1000000) (hgl : lg.groups ≤ 1000000000) (hzl : lg.size ≤ 1000000000) :
    Calls Tryz.prog 11 #[.pointer (some ⟨g, 0, none⟩), .slice (some ⟨s, 0, none⟩) n cp] (w.alloc (.cells cs t)) (CommitG g c b T nm w x lg' st') := by
  subst hs
  have hlc := hd.lt
  have hlb := hd.ltb
  have q := commit_at g c b T nm lg st ss x lg' st' hr hok n hn (some ⟨w.heap.size, 0, none⟩) cp (w.alloc (.cells cs t)) (h.alloc _) (hd.alloc _) (w.heap.size + 1) (reads_newV w (strs ss) t cs hcs (by rw [strs_len]; exact hn) rfl (Nat.lt_succ_self _)) (by simp) (fun _ ad e => by injection e with e; subst e; exact ⟨fun hm => by have := h.there _ hm; exact absurd this (Nat.lt_irrefl _), show w.heap.size ≠ c by omega, show w.heap.size ≠ b by omega⟩) hnm htot hL hrl hgl hzl
  refine q.mono ?_
  rintro e w' ⟨T', rfl, k1, k2, k3⟩
  exact ⟨T', rfl, k1, k2, ((Mv.refl _ _).alloc _).trans k3⟩
/-- What a call leaves that turns a disk and a log, both of the call's own. -/
theorem Mv.here {c b : Nat} {T T' : List Nat} {w0 w w' : World} (hB : Below w0.heap.size w0 w) (hm : Mv (c :: b :: T) (c :: b :: T') w w') (hc : w0.heap.size ≤ c) (hb : w0.heap.size ≤ b) (hT : ∀ k, k ∈ T → w0.heap.size ≤ k) : Below w0.heap.size w0 w' ∧ ∀ k, k ∈ T' → w0.heap.size ≤ k := by
  have hs := hB.size
  refine ⟨hB.trans ⟨hm.os, hm.tape, hm.output, hm.size, fun k hk => hm.block k (by omega) (fun e => ?_)⟩, fun k hk => ?_⟩
  · simp only [List.mem_cons] at e
    rcases e with rfl | rfl | e
    · omega
    · omega
    · have := hT k e; omega
  · rcases hm.link k (by simp [hk]) with h | h
    · simp only [List.mem_cons] at h
      rcases h with rfl | rfl | h
      · exact hc
      · exact hb
      · exact hT k h
    · omega
theorem name_x : LogName ⟨#[120]⟩ := ⟨by kernel_rfl, by kernel_rfl, by intro h; have := congrArg ByteArray.size h; revert this; decide, by decide⟩
theorem name_w : LogName ⟨#[119]⟩ := ⟨by kernel_rfl, by kernel_rfl, by intro h; have := congrArg ByteArray.size h; revert this; decide, by decide⟩
def ssA : List ByteArray := [⟨#[97]⟩, ⟨#[98]⟩]
def ssC : List ByteArray := [⟨#[99]⟩]
theorem size_nil : (fileOf []).size = 0 := rfl
theorem sizeA : (groupB ssA).size ≤ 100 := by have := group_len ssA; have h1 : total ssA = 2 := rfl; have h2 : ssA.length = 2 := rfl; omega
theorem sizeC : (groupB ssC).size ≤ 100 := by have := group_len ssC; have h1 : total ssC = 1 := rfl; have h2 : ssC.length = 1 := rfl; omega
theorem sizeAA : (fileOf [ssA]).size = (groupB ssA).size := by
  have := fileOf_snoc [] ssA
  rw [List.nil_append] at this
  rw [this, size_app', size_nil, Nat.zero_add]
theorem sizeAC : (fileOf [ssA, ssC]).size = (groupB ssA).size + (groupB ssC).size := by
  have := fileOf_snoc [ssA] ssC
  rw [List.cons_append, List.nil_append] at this
  rw [this, size_app', sizeAA]
theorem mv_file (c b : Nat) {T : List Nat} {w w' : World} (h : Mv [c, b] [c, b] w w') : Mv (c :: b :: T) (c :: b :: T) w w' := h.wide (by intro k hk; simp at hk ⊢; omega)
theorem mv_file' (c b : Nat) {T : List Nat} {w w' : World} (h : Mv [c, b] [c, b] w w') : Mv (c :: b :: T) [c, b] w w' := ⟨h.os, h.tape, h.output, h.size, fun k hk hn => h.block k hk (fun e => hn (by simp at e ⊢; omega)), fun k hk => .inl (by simp at hk ⊢; omega)⟩
theorem open_here {c b : Nat} {w0 w w' : World} (hB : Below w0.heap.size w0 w) (hm : Mv [c, b] [c, b] w w') (hc : w0.heap.size ≤ c) (hb : w0.heap.size ≤ b) : Below w0.heap.size w0 w' :=
  hB.trans ⟨hm.os, hm.tape, hm.output, hm.size, fun k hk => hm.block k (Nat.lt_of_lt_of_le hk hB.size) (by simp; omega)⟩
theorem own_three {w : World} {B : Nat} {v : Value} {x y z : ByteArray} (h : w.ownsRow B 9 1 v 3 (strs [x, y, z])) : ∃ q cap, v = .slice (some ⟨q, 0, none⟩) 3 cap ∧ w.cell? ⟨q, 0, none⟩ = some (.string x) ∧ w.cell? ⟨q, 2, none⟩ = some (.string z) := by
  obtain ⟨q, cap, rfl, _, _⟩ := h.form (by omega)
  have hc := h.cells (g := q) rfl
  exact ⟨q, cap, rfl, hc 0 _ rfl, hc 2 _ rfl⟩
theorem recsAC : (logOf [ssA, ssC] false).recs = [⟨#[97]⟩, ⟨#[98]⟩, ⟨#[99]⟩] := rfl
theorem fitA : FitG ssA := ⟨by decide, rfl⟩
theorem fitC : FitG ssC := ⟨by decide, rfl⟩
theorem fitAC : ∀ ss ∈ [ssA, ssC], FitG ss := by
  intro ss hs
  simp at hs
  rcases hs with rfl | rfl
  · exact fitA
  · exact fitC
set_option maxHeartbeats 8000000 in
theorem alive6_any (w : World) : Calls Tryz.prog 9 #[] w fun e w' => e = .returned (.bool true) ∧ Below w.heap.size w w' := by
  go_enter Tryz.func9, Tryz.ntmps9
  go_wp2_with fail
  refine (new_any _).mono ?_
  rintro e w1 ⟨c, b, rfl, h1, hc, hb, hb1⟩
  have HB1 := Lib.hid hb1
  have q := openA c b ⟨#[120]⟩ name_x newDk w1 h1 on1_new
  clear hb1 h1
  go_wp2_with fail
  refine q.mono ?_
  rintro e w2 ⟨g, T, s2, rfl, hl2, hd2, ho2, hT2, hm2⟩
  have HB2 := Lib.hid (open_here HB1.out hm2 hc hb)
  have HT2 : Hid (∀ k, k ∈ T → w.heap.size ≤ k) := fun k hk => Nat.le_trans HB1.out.size (hT2 k hk)
  obtain ⟨s3, e3, ho3⟩ := commit_on ho2 (ss := ssA) rfl (by decide) (by rw [size_nil]; have := sizeA; omega)
  have q3 := fun (s : Nat) (hs : s = w2.heap.size) => commit_lit g c b T ⟨#[120]⟩ (logOf [] false) s2 ssA _ _ _ e3 ho2.ok 2 rfl #[.string ⟨#[97]⟩, .string ⟨#[98]⟩] rfl 9 s 2 w2 hs hl2 hd2 (by decide) (by decide) (by decide) (by decide) (by decide) (by decide)
  have Q3 := Lib.hid q3
  have HO3 := Lib.hid ho3
  clear q q3 e3 ho3 hl2 hd2 ho2 hm2 hT2 HB1
  go_wp2_with fail
  refine (Q3.out _ rfl).mono ?_
  rintro e w3 ⟨T3, rfl, hl3, hd3, hm3⟩
  obtain ⟨hB3, hT3⟩ := Mv.here HB2.out hm3 hc hb HT2.out
  have HB3 := Lib.hid hB3
  have HT3 := Lib.hid hT3
  rw [List.nil_append] at hl3 HO3
  obtain ⟨s4, e4, ho4⟩ := commit_on HO3.out (ss := ssC) rfl (by decide) (by rw [sizeAA]; have := sizeA; have := sizeC; omega)
  have q4 := fun (s : Nat) (hs : s = w3.heap.size) => commit_lit g c b T3 ⟨#[120]⟩ (logOf [ssA] false) s3 ssC _ _ _ e4 HO3.out.ok 1 rfl #[.string ⟨#[99]⟩] rfl 9 s 1 w3 hs hl3 hd3 (by decide) (by decide) (by decide) (by decide) (by decide) (by show (fileOf [ssA]).size ≤ _; rw [sizeAA]; have := sizeA; omega)
  have Q4 := Lib.hid q4
  have HO4 := Lib.hid ho4
  clear Q3 q4 e4 ho4 hl3 hd3 hm3 hB3 hT3 HO3 HB2 HT2
  go_wp2_with fail
  refine (Q4.out _ rfl).mono ?_
  rintro e w4 ⟨T4, rfl, hl4, hd4, hm4⟩
  obtain ⟨hB4, hT4⟩ := Mv.here HB3.out hm4 hc hb HT3.out
  have HB4 := Lib.hid hB4
  have HT4 := Lib.hid hT4
  have HL4 := Lib.hid hl4
  have happ := hl4.apart hd4
  rw [List.cons_append, List.nil_append] at HO4 HL4
  have q5 := openB c b ⟨#[120]⟩ name_x [ssA, ssC] ⟨#[]⟩ _ s4 w4 hd4 (by have h := HO4.out; have e : fileOf [ssA, ssC] ++ ⟨#[]⟩ = fileOf [ssA, ssC] := of_data (by rw [Sm.data_append]; simp); rw [e]; exact h) (by omega) (by rw [size_app']; have : (⟨#[]⟩ : ByteArray).size = 0 := rfl; omega)
    (goodOf_tailB (G := [ssA, ssC]) fitAC (by decide)) (fun _ => rfl) (by rw [sizeAC]; have := sizeA; have := sizeC; have : (⟨#[]⟩ : ByteArray).size = 0 := rfl; omega)
  clear Q4 hl4 hd4 hm4 hB4 hT4 HO4 HB3 HT3
  go_wp2_with fail
  refine q5.mono ?_
  rintro e w5 ⟨g5, T5, s5, rfl, hl5, hd5, ho5, hT5, hm5⟩
  have HB5 := Lib.hid (open_here HB4.out hm5 hc hb)
  have HL45 := Lib.hid (HL4.out.aside hm5 (fun k hk => by have := happ k hk; simp; omega))
  have HL5 := Lib.hid hl5
  have q6 := records_any g5 c T5 _ _ w5 hl5 (by decide)
  rw [recsAC] at q6
  clear q5 hl5 hd5 ho5 hT5 hm5 HB4 HT4 HL4 happ
  go_wp2_with fail
  refine q6.mono ?_
  rintro e w6 ⟨v, rfl, hown, hb6⟩
  obtain ⟨qq, cap, rfl, d0, d2⟩ := own_three hown
  have HB6 := Lib.hid (HB5.out.trans (hb6.mono HB5.out.size))
  have HL6 := Lib.hid (HL5.out.below hb6)
  have HL46 := Lib.hid (HL45.out.below hb6)
  have qg := groups_any g5 c T5 _ _ w6 HL6.out
  have hgr : (((logOf [ssA, ssC] false).groups : Nat) : Int) = 2 := rfl
  rw [hgr] at qg
  have qs1 := size_any' g5 c T5 _ _ w6 HL6.out
  have qs2 := size_any' g c T4 _ _ w6 HL46.out
  clear q6 hown hb6 HB5 HL5 HL45 hgr
  go_wp2_with fail
  refine qg.mono ?_
  rintro e w7 ⟨rfl, rfl⟩
  go_wp2_with fail
  refine qs1.mono ?_
  rintro e w7 ⟨rfl, rfl⟩
  go_wp2_with fail
  refine qs2.mono ?_
  rintro e w7 ⟨rfl, rfl⟩
  go_wp2
  go_ret
  exact ⟨rfl, HB6.out⟩
end Go.Proofs.YtfmbadinfhpihaaGreat
