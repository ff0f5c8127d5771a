/-
  The document's log (complineref5.Log) in memory; goodPart as a contract: the groups at the front of bytes.
  Conditions: bytes of at most 10^8.
-/
import Derived.Test.YtfmbadinfhpihaaGreatD5Agree
import Derived.Test.YtfmbadinfhpihaaGreatWal9
import Derived.Test.YtfmbadinfhpihaaGreatRr6
import Derived.Test.YtfmbadinfhpihaaGreatRs2
import Derived.Test.YtfmbadinfhpihaaGreatD5e
set_option linter.unusedVariables false
set_option linter.unusedSimpArgs false
namespace Go.Proofs.YtfmbadinfhpihaaGreat
open Go.RowKit Go.Maps Go.Sort
set_option maxRecDepth 100000

/-- Steps up to the first one that fails. -/
def first5 : List (D5 → Int × D5) → D5 → Int × D5
  | [], r => (0, r)
  | f :: fs, r => if (f r).1 = 0 then first5 fs (f r).2 else f r
def drop5 (s : ByteArray) (r : D5) : Int × D5 := if (read5 r s).2 = 0 then remove5 r s else (0, r)
def mend5 (nm y : ByteArray) (sz : Nat) : List (D5 → Int × D5) :=
  [drop5 (spareOf nm), fun r => create5 r (spareOf nm), fun r => append5 r (spareOf nm) (y.extract 0 sz), fun r => sync5 r (spareOf nm), fun r => rename5 r (spareOf nm) nm]
/-- OpenLog: an error, the disk, the good part. -/
def open5 (nm : ByteArray) (r : D5) : Int × D5 × Option Wal.Gs :=
  if (read5 r nm).2 = 7 then
    (if (create5 r nm).1 = 0 then (0, (create5 r nm).2, some Wal.none_) else ((create5 r nm).1, (create5 r nm).2, none))
  else if (read5 r nm).2 = 0 then
    (if (Wal.goodOf (read5 r nm).1.data.toList).size = (read5 r nm).1.size then (0, r, some (Wal.goodOf (read5 r nm).1.data.toList))
    else if (first5 (mend5 nm (read5 r nm).1 (Wal.goodOf (read5 r nm).1.data.toList).size) r).1 = 0 then (0, (first5 (mend5 nm (read5 r nm).1 (Wal.goodOf (read5 r nm).1.data.toList).size) r).2, some (Wal.goodOf (read5 r nm).1.data.toList))
    else ((first5 (mend5 nm (read5 r nm).1 (Wal.goodOf (read5 r nm).1.data.toList).size) r).1, (first5 (mend5 nm (read5 r nm).1 (Wal.goodOf (read5 r nm).1.data.toList).size) r).2, none))
  else ((read5 r nm).2, r, none)
def commit5s (nm y : ByteArray) : List (D5 → Int × D5) := [fun r => append5 r nm y, fun r => sync5 r nm]
/-- Commit: an error, the log, the disk. -/
def commit5 (nm : ByteArray) (lg : Lg) (r : D5) (ss : List ByteArray) : Int × Lg × D5 :=
  if lg.broken = true then (14, lg, r) else if longB ss = true then (2, lg, r) else if ss.length = 0 then (0, lg, r)
  else if (first5 (commit5s nm (groupB ss)) r).1 = 0 then (0, ⟨lg.recs ++ ss, lg.groups + 1, lg.size + (groupB ss).size, false⟩, (first5 (commit5s nm (groupB ss)) r).2)
  else ((first5 (commit5s nm (groupB ss)) r).1, ⟨lg.recs, lg.groups, lg.size, true⟩, (first5 (commit5s nm (groupB ss)) r).2)

/-- Steps of the one and of the other. -/
inductive Both5 : List (Dk → Int × Dk) → List (D5 → Int × D5) → Prop
  | nil : Both5 [] []
  | cons {f : Dk → Int × Dk} {g : D5 → Int × D5} {fs : List (Dk → Int × Dk)} {gs : List (D5 → Int × D5)} (h : ∀ st r, Agree5 st r → (g r).1 = (f st).1 ∧ Agree5 (f st).2 (g r).2) (hs : Both5 fs gs) : Both5 (f :: fs) (g :: gs)
theorem Both5.first {fs : List (Dk → Int × Dk)} {gs : List (D5 → Int × D5)} (h : Both5 fs gs) : ∀ {st : Dk} {r : D5}, Agree5 st r → (first5 gs r).1 = (firstD fs st).1 ∧ Agree5 (firstD fs st).2 (first5 gs r).2 := by
  induction h with
  | nil => intro st r ha; exact ⟨rfl, ha⟩
  | cons h _ ih =>
    rename_i f g fs gs _
    intro st r ha
    obtain ⟨h1, h2⟩ := h st r ha
    unfold first5 firstD
    rw [h1]
    by_cases h0 : (f st).1 = 0
    · rw [if_pos h0, if_pos h0]
      exact ih h2
    · rw [if_neg h0, if_neg h0]
      exact ⟨h1, h2⟩
section
variable {st : Dk} {r : D5}
theorem commit_both (nm y : ByteArray) : Both5 (commitD nm y) (commit5s nm y) :=
  .cons (fun _ _ h => h.append nm y) (.cons (fun _ _ h => h.sync nm) .nil)
/-- A spare file that is there is taken away, where there is power. -/
theorem Agree5.drop (h : Agree5 st r) (hon : st.on = true) (s : ByteArray) : (drop5 s r).1 = (removeIf s st).1 ∧ Agree5 (removeIf s st).2 (drop5 s r).2 := by
  unfold drop5 removeIf
  rw [h.read s]
  unfold readD
  rw [if_pos hon]
  unfold lacksD
  by_cases hh : hasS st.fs s = true
  · rw [if_pos hh, if_pos hh, if_pos rfl]
    exact h.remove s
  · rw [if_neg hh, if_neg hh, if_neg (show ¬ ((fileAt st.fs s).1, (7 : Int)).2 = 0 from fun e => by cases e)]
    exact ⟨rfl, h⟩
theorem Agree5.mend (h : Agree5 st r) (hon : st.on = true) (nm y : ByteArray) (sz : Nat) : (first5 (mend5 nm y sz) r).1 = (firstD (mendD nm y sz) st).1 ∧ Agree5 (firstD (mendD nm y sz) st).2 (first5 (mend5 nm y sz) r).2 := by
  obtain ⟨h1, h2⟩ := h.drop hon (spareOf nm)
  have hb : Both5 [fun st => createD st (spareOf nm), fun st => appendD st (spareOf nm) (y.extract 0 sz), fun st => syncD st (spareOf nm), fun st => renameD st (spareOf nm) nm] [fun r => create5 r (spareOf nm), fun r => append5 r (spareOf nm) (y.extract 0 sz), fun r => sync5 r (spareOf nm), fun r => rename5 r (spareOf nm) nm] :=
    .cons (fun _ _ h => h.create _) (.cons (fun _ _ h => h.append _ _) (.cons (fun _ _ h => h.sync _) (.cons (fun _ _ h => h.rename _ _) .nil)))
  unfold mend5 mendD first5 firstD
  rw [h1]
  by_cases h0 : (removeIf (spareOf nm) st).1 = 0
  · rw [if_pos h0, if_pos h0]
    exact hb.first h2
  · rw [if_neg h0, if_neg h0]
    exact ⟨h1, h2⟩
theorem goodOf_nil : Wal.goodOf [] = Wal.none_ := by
  have h := Wal.goodOf_whole (G := []) (by simp)
  simpa [Wal.file, Wal.none_] using h
theorem Agree5.opens (h : Agree5 st r) (nm : ByteArray) : (open5 nm r).1 = (openD nm st).1 ∧ Agree5 (openD nm st).2.1 (open5 nm r).2.1 ∧ (open5 nm r).2.2 = (openD nm st).2.2 := by
  unfold open5 openD
  rw [h.read nm]
  by_cases h7 : (readD st nm).2 = 7
  · have hd : (readD st nm).1.data.toList = [] ∧ (readD st nm).1.size = 0 := by
      unfold readD at h7 ⊢
      by_cases hon : st.on = true
      · rw [if_pos hon] at h7 ⊢
        unfold lacksD at h7
        by_cases hh : hasS st.fs nm = true
        · rw [if_pos hh] at h7; cases h7
        · rw [fileAt_none (by simpa using hh)]; exact ⟨rfl, rfl⟩
      · rw [if_neg hon]; exact ⟨rfl, rfl⟩
    obtain ⟨h1, h2⟩ := h.create nm
    simp only [if_pos h7, hd.1, hd.2, goodOf_nil, h1]
    rw [if_neg (show ¬ Wal.none_.size < 0 by omega)]
    by_cases h0 : (createD st nm).1 = 0
    · rw [if_pos h0, if_pos h0]; exact ⟨rfl, h2, rfl⟩
    · rw [if_neg h0, if_neg h0]; exact ⟨rfl, h2, rfl⟩
  · simp only [if_neg h7]
    by_cases h0 : (readD st nm).2 = 0
    · rw [if_pos h0, if_pos h0]
      have hle := Wal.goodOf_size (readD st nm).1.data.toList
      rw [len_data] at hle
      have hon : st.on = true := by
        by_cases hon : st.on = true
        · exact hon
        · unfold readD at h0
          rw [if_neg hon] at h0
          cases h0
      obtain ⟨G, hG⟩ : ∃ G, Wal.goodOf (readD st nm).1.data.toList = G := ⟨_, rfl⟩
      rw [hG] at hle ⊢
      by_cases hs : G.size = (readD st nm).1.size
      · have hlt : ¬ G.size < (readD st nm).1.size := by omega
        rw [if_pos hs, if_neg hlt]
        exact ⟨rfl, h, rfl⟩
      · have hlt : G.size < (readD st nm).1.size := by omega
        rw [if_neg hs, if_pos hlt]
        obtain ⟨h1, h2⟩ := h.mend hon nm (readD st nm).1 G.size
        rw [h1]
        by_cases h3 : (firstD (mendD nm (readD st nm).1 G.size) st).1 = 0
        · rw [if_pos h3, if_pos h3]; exact ⟨rfl, h2, rfl⟩
        · rw [if_neg h3, if_neg h3]; exact ⟨rfl, h2, rfl⟩
    · rw [if_neg h0, if_neg h0]
      exact ⟨rfl, h, rfl⟩
theorem Agree5.commit (h : Agree5 st r) (nm : ByteArray) (lg : Lg) (ss : List ByteArray) : (commit5 nm lg r ss).1 = (commitR nm lg st ss).1 ∧ (commit5 nm lg r ss).2.1 = (commitR nm lg st ss).2.1 ∧ Agree5 (commitR nm lg st ss).2.2 (commit5 nm lg r ss).2.2 := by
  unfold commit5 commitR
  by_cases hb : lg.broken = true
  · rw [if_pos hb, if_pos hb]; exact ⟨rfl, rfl, h⟩
  · rw [if_neg hb, if_neg hb]
    by_cases hl : longB ss = true
    · rw [if_pos hl, if_pos hl]; exact ⟨rfl, rfl, h⟩
    · rw [if_neg hl, if_neg hl]
      by_cases hn : ss.length = 0
      · rw [if_pos hn, if_pos hn]; exact ⟨rfl, rfl, h⟩
      · rw [if_neg hn, if_neg hn]
        obtain ⟨h1, h2⟩ := (commit_both nm (groupB ss)).first h
        rw [h1]
        by_cases h0 : (firstD (commitD nm (groupB ss)) st).1 = 0
        · rw [if_pos h0, if_pos h0]; exact ⟨rfl, rfl, h2⟩
        · rw [if_neg h0, if_neg h0]; exact ⟨rfl, rfl, h2⟩
end
end Go.Proofs.YtfmbadinfhpihaaGreat
namespace Go.Proofs.YtfmbadinfhpihaaGreat
open Go.RowKit Go.Maps
attribute [local go_sem ↓] Go.wp_at_zero Go.wp_at_succ
set_option maxRecDepth 100000

/-- The document's log in block y, on its disk in block x; S are the log's blocks. -/
def L5At (y x : Nat) (S : List Nat) (nm : ByteArray) (st : Lg) (w : World) : Prop :=
  ∃ v, S = y :: v.ownBlock.toList ∧ w.heap[y]? = some (.cells #[.pointer (some ⟨x, 0, none⟩), .string nm, v, .int .i64 st.groups, .int .i64 st.size, .bool st.broken] 97 (0, 0)) ∧ w.ownsRow 0 9 1 v st.recs.length (strs st.recs) ∧ v.ownBlock ≠ some y
section
variable {y x : Nat} {S T T' : List Nat} {nm : ByteArray} {st : Lg} {w w' : World}
theorem L5At.own (h : L5At y x S nm st w) : y ∈ S := by obtain ⟨v, rfl, _⟩ := h; simp
theorem L5At.keep (h : L5At y x S nm st w) (hb : ∀ k, k ∈ S → w'.heap[k]? = w.heap[k]?) : L5At y x S nm st w' := by
  obtain ⟨v, rfl, h2, h3, h4⟩ := h
  exact ⟨v, rfl, by rw [hb y (by simp)]; exact h2, own_keep' h3 (fun k hk => hb k (by simp [hk])), h4⟩
theorem L5At.lt (h : L5At y x S nm st w) : y < w.heap.size := by obtain ⟨v, _, h2, _⟩ := h; exact Blk.lt h2
theorem L5At.there (h : L5At y x S nm st w) : ∀ k, k ∈ S → k < w.heap.size := by
  have h1 := h.lt
  obtain ⟨v, rfl, h2, h3, h4⟩ := h
  intro k hk
  simp only [List.mem_cons, Option.mem_toList] at hk
  rcases hk with rfl | hk
  · exact h1
  · exact (h3.lt k hk).2
theorem L5At.below (h : L5At y x S nm st w) (hb : Below w.heap.size w w') : L5At y x S nm st w' := h.keep fun k hk => hb.block k (h.there k hk)
theorem L5At.aside (h : L5At y x S nm st w) (hm : Mv T T' w w') (ha : ∀ k, k ∈ S → k ∉ T) : L5At y x S nm st w' := h.keep fun k hk => hm.block k (h.there k hk) (ha k hk)
theorem L5At.frozen (h : L5At y x S nm st w) (i : Nat) : w.frozen? ⟨y, i, none⟩ = false := by obtain ⟨v, _, hb, _⟩ := h; exact Lib.frozen_of_heap hb i
theorem L5At.cell0 (h : L5At y x S nm st w) : w.cell? ⟨y, 0, none⟩ = some (.pointer (some ⟨x, 0, none⟩)) := by obtain ⟨v, _, h2, _⟩ := h; rw [Lib.cell_of_heap h2]; rfl
theorem L5At.cell1 (h : L5At y x S nm st w) : w.cell? ⟨y, 1, none⟩ = some (.string nm) := by obtain ⟨v, _, h2, _⟩ := h; rw [Lib.cell_of_heap h2]; rfl
theorem L5At.cell3 (h : L5At y x S nm st w) : w.cell? ⟨y, 3, none⟩ = some (.int .i64 st.groups) := by obtain ⟨v, _, h2, _⟩ := h; rw [Lib.cell_of_heap h2]; rfl
theorem L5At.cell4 (h : L5At y x S nm st w) : w.cell? ⟨y, 4, none⟩ = some (.int .i64 st.size) := by obtain ⟨v, _, h2, _⟩ := h; rw [Lib.cell_of_heap h2]; rfl
theorem L5At.cell5 (h : L5At y x S nm st w) : w.cell? ⟨y, 5, none⟩ = some (.bool st.broken) := by obtain ⟨v, _, h2, _⟩ := h; rw [Lib.cell_of_heap h2]; rfl
theorem L5At.row (h : L5At y x S nm st w) : ∃ A c, w.cell? ⟨y, 2, none⟩ = some (.slice A st.recs.length c) ∧ Reads w w.heap.size 1 A st.recs.length (strs st.recs) := by
  obtain ⟨v, _, h2, h3, _⟩ := h
  obtain ⟨A, c, rfl, _⟩ := own_form h3
  exact ⟨A, c, by rw [Lib.cell_of_heap h2]; rfl, Reads.of_own h3⟩
end
theorem rc_is {s : ByteArray} {c : UInt8} {r : List UInt8} (hs : s.data.toList = c :: r) (n : Nat) : Wal.countB r n = (decide ((Wi.numTells (s.extract 1 s.size) 0).2.2 = 0) && (decide ((Wi.numTells (s.extract 1 s.size) 0).2.1 = (s.extract 1 s.size).size) && decide ((Wi.numTells (s.extract 1 s.size) 0).1 = (n : Int)))) := by
  have hd : (s.extract 1 s.size).data.toList = r := by rw [Sm.extract_tail, hs]; rfl
  have hz : (s.extract 1 s.size).size = r.length := by rw [← len_data, hd]
  unfold Wal.countB
  cases hr : Wire.dec 0 0 r with
  | error x =>
    have hnt : Wi.numTells (s.extract 1 s.size) 0 = (0, 0, (x : Int)) := Wi.numTells_err (by rw [List.drop_zero, hd]; exact hr)
    have hx : (x : Int) ≠ 0 := by rcases Wire.dec_err _ _ _ _ hr with rfl | rfl <;> decide
    rw [hnt]
    show false = (decide ((x : Int) = 0) && _)
    rw [decide_eq_false hx]
    rfl
  | ok p =>
    obtain ⟨N, m⟩ := p
    have hnt : Wi.numTells (s.extract 1 s.size) 0 = (Wire.unzz N, 0 + m, 0) := Wi.numTells_ok (by rw [List.drop_zero, hd]; exact hr)
    rw [hnt, hz]
    show (m == r.length && Wire.unzz N == (n : Int)) = (decide ((0 : Int) = 0) && (decide (0 + m = r.length) && decide (Wire.unzz N = (n : Int))))
    rw [Nat.zero_add, decide_eq_true rfl, Bool.true_and]
    rfl
theorem own_weak {w : World} {B B' : Nat} {e : TypeId} {v : Value} {n : Nat} {xs : List Value} (h : w.ownsRow B e 1 v n xs) (hB : B' ≤ B) : w.ownsRow B' e 1 v n xs := by
  refine ⟨h.1, ?_⟩
  rcases h.2 with h2 | ⟨g, cap, cur, e', hbg, rest⟩
  · exact .inl h2
  · exact .inr ⟨g, cap, cur, e', Nat.le_trans hB hbg, rest⟩
set_option maxHeartbeats 8000000 in
theorem goodpart_any (b : ByteArray) (hbs : b.size ≤ 100000000) (w : World) :
    Calls Tryz.prog 67 #[.string b] w fun e w' => ∃ v, e = .returned (.tuple #[v, .int .i64 (Wal.goodOf b.data.toList).groups, .int .i64 (Wal.goodOf b.data.toList).size]) ∧
      w'.ownsRow w.heap.size 9 1 v (Wal.goodOf b.data.toList).recs.length (strs (Sm.texts (Wal.goodOf b.data.toList).recs)) ∧ Below w.heap.size w w' := by
  obtain ⟨i0, hinf, hz0, hz1, hz2⟩ := info_parts infoT5
  have hfr := Sum.scan_framed b.data.toList
  have hle := Sum.scan_le b.data.toList
  have hscan := Sm.rscan_any b w (by omega)
  have HG : Hid (Wal.goodOf b.data.toList = Wal.good (Sum.scan b.data.toList).1 [] 0 Wal.none_) := rfl
  obtain ⟨fs, hfs⟩ : ∃ fs, (Sum.scan b.data.toList).1 = fs := ⟨_, rfl⟩
  have hfl : (Sum.frames fs).length ≤ b.size := by
    rw [← hfs, hfr, List.length_take, ← len_data]
    exact Nat.min_le_right _ _
  rw [hfs] at HG hscan
  obtain ⟨n, hn⟩ : ∃ n, fs.length = n := ⟨_, rfl⟩
  have hnl : 8 * n ≤ b.size := by
    have := Sum.frames_length fs
    rw [hn] at this
    omega
  rw [hn] at hscan
  obtain ⟨R, hR⟩ : ∃ R, Wal.goodOf b.data.toList = R := ⟨_, rfl⟩
  rw [hR] at HG ⊢
  obtain ⟨x2, hx2⟩ : ∃ x, (Sum.scan b.data.toList).2 = x := ⟨_, rfl⟩
  rw [hx2] at hscan
  have HN := Lib.hid hn
  have HS := Lib.hid hscan
  have HFL := Lib.hid hfl
  clear hscan hfs hn hR hx2 hfr hle hfl
  go_enter Tryz.func67, Tryz.ntmps67
  go_wp2_with fail
  refine HS.out.mono ?_
  rintro e w1 ⟨A, cp, rfl, hown1, hb1⟩
  have HO1 := Lib.hid hown1
  have HB1 := Lib.hid hb1
  have hz1' := hb1.size
  clear hown1 hb1
  go_wp2
  go_loopw [7, 8, 9, 10, 11, 12] (fun lv op gr sz ta i wr => ∃ (k a : Nat) (o : List (List UInt8)) (G : Wal.Gs), k ≤ n ∧ i = .int .i64 k ∧ ta = .int .i64 a ∧ gr = .int .i64 G.groups ∧ sz = .int .i64 G.size ∧ Hid (Wal.good (fs.drop k) o a G = R) ∧ Hid (a = (Sum.frames (fs.take k)).length) ∧
      Hid (wr.ownsRow w1.heap.size 9 1 lv G.recs.length (strs (Sm.texts G.recs))) ∧ Hid (wr.ownsRow w1.heap.size 9 1 op o.length (strs (Sm.texts o))) ∧ Hid (∀ q, op.ownBlock = some q → lv.ownBlock ≠ some q) ∧ Hid (Below w1.heap.size w1 wr) ∧ Hid (o.length ≤ k) ∧ Hid (G.recs.length + o.length ≤ k) ∧ Hid (G.groups ≤ k)) (fun _ _ _ _ _ i _ => n - (intOf i).toNat)
  case atStart =>
    exact ⟨0, 0, [], Wal.none_, Nat.zero_le _, rfl, rfl, rfl, rfl, HG.out.symm, rfl, World.ownsRow_nil _ _ _ _, World.ownsRow_nil _ _ _ _, fun q hq => by simp [Value.ownBlock] at hq, Below.refl _ _, Nat.le_refl _, Nat.le_refl _, Nat.le_refl _⟩
  case round =>
    obtain ⟨k, a, o, G, hk, rfl, rfl, rfl, rfl, HGO, HA, HLV, HOP, HAP, HB, HOL, HGL, HGR⟩ := hrel
    obtain ⟨AL, cL, rfl, hcL⟩ := own_form HLV.out
    obtain ⟨A2, c2, rfl, hc2⟩ := own_form HOP.out
    have hszr := HB.out.size
    obtain ⟨p, hp⟩ : ∃ p, G.recs.length = p := ⟨_, rfl⟩
    obtain ⟨m, hm⟩ : ∃ m, o.length = m := ⟨_, rfl⟩
    have HPP := Lib.hid hp; have HMM := Lib.hid hm
    have hol : m ≤ k := by have := HOL.out; omega
    have hgl : p + m ≤ k := by have := HGL.out; omega
    have hgr : G.groups ≤ k := HGR.out
    rw [hp] at hcL ⊢
    rw [hm] at hc2 ⊢
    clear hp hm
    by_cases hlt : k < n
    · have hownr : wr.ownsRow w.heap.size 9 1 (.slice A n cp) n (strs (Sm.texts fs)) := own_keep' HO1.out (fun q hq => HB.out.block q (HO1.out.lt q hq).2)
      obtain ⟨ad, s, rfl, hab, hsk, hcell⟩ := str_at (Reads.of_own hownr) hlt
      have hsf : fs[k]? = some s.data.toList := by
        simp only [Sm.texts, List.getElem?_map, Option.map_eq_some_iff] at hsk
        obtain ⟨l, hl, rfl⟩ := hsk
        rw [hl, Sm.data_mk]
      have hak : (Sum.frames (fs.take (k + 1))).length = (Sum.frames (fs.take k)).length + (s.size + 8) := by
        rw [take_snoc hsf, Sum.frames_append, List.length_append, Wal.frames_one, len_data]
      have hal : a + (s.size + 8) ≤ b.size := by
        have h1 : (Sum.frames (fs.take (k + 1))).length ≤ (Sum.frames fs).length := by
          conv => rhs; rw [← List.take_append_drop (k + 1) fs]
          rw [Sum.frames_append, List.length_append]; omega
        have := HFL.out; have := HA.out; omega
      have hdrop := drop_cons hsf
      have HAK : Hid (a + (s.size + 8) = (Sum.frames (fs.take (k + 1))).length) := by show _ = _; rw [hak, ← HA.out]
      have b1 : (0 : Int) ≤ (k : Int) := by omega
      have b2 : (k : Int) < (n : Int) := by omega
      clear hownr hsk hsf hak HA
      cases hcase : s.data.toList with
      | nil =>
        have hs0' : s.size = 0 := by rw [← len_data, hcase]; rfl
        have HR : Hid (G = R) := by
          show _ = _
          have h1 := HGO.out
          rw [hdrop, hcase] at h1
          rw [← h1]
          unfold Wal.good
          rfl
        have hz9 : decide ((s.size : Int) > 0) = false := decide_eq_false (by omega)
        have hz8 : ((s.size : Int) == 0) = true := by simp [hs0']
        clear hcase hdrop HGO
        go_wp2
        go_ret3
        refine ⟨_, by rw [← HR.out]; rfl, ?_, HB1.out.trans (HB.out.mono HB1.out.size)⟩
        rw [← HR.out, HPP.out]
        have h9 := HLV.out
        first | exact own_weak h9 hz1' | (rw [HPP.out] at h9; exact own_weak h9 hz1')
      | cons x r =>
        obtain ⟨h0, hx0, hsz, hrest⟩ := byte_head hcase
        have hz9 : decide ((s.size : Int) > 0) = true := decide_eq_true (by omega)
        have hz8 : ((s.size : Int) == 0) = false := beq_false_of_ne (by omega)
        have hx256 := x.toNat_lt
        obtain ⟨xn, hxn⟩ : ∃ xn : Nat, x.toNat = xn := ⟨_, rfl⟩
        have hs0 : s[0].toNat = xn := by rw [hx0, hxn]
        rw [hxn] at hx256
        have hgo := HGO.out
        rw [hdrop, hcase, Wal.good] at hgo
        have hxx : ∀ y : UInt8, x = y ↔ xn = y.toNat := fun y => by rw [← hxn]; exact UInt8.toNat_inj.symm
        have hsr : s.size + 8 = r.length + 9 := by omega
        rw [← hsr] at hgo
        have hcnt := rc_is hcase o.length
        have HREST := Lib.hid hrest
        have h1s : 1 ≤ s.size := h0
        have hssz : s.size ≤ 100000000 := by omega
        clear hsz hcase hx0 hrest hxn hsr hdrop HGO
        by_cases h114 : xn = 114
        · have hg1 : x = 114 := (hxx 114).2 h114
          rw [if_pos hg1] at hgo
          have HGO2 := Lib.hid hgo
          have hb1 : ((xn : Int) == 114) = true := by rw [h114]; rfl
          have hop1 := HOP.out.alloc (.cells #[.string (s.extract 1 s.size)] 9)
          rw [HMM.out] at hop1
          have HB9 := Lib.hid (HB.out.alloc hszr (.cells #[.string (s.extract 1 s.size)] 9))
          clear hgo hg1 h114 hcnt hxx
          go_wp2_with (at_builtin; go_loud (refine wpList_append_any _ rfl _ _ 22 rfl w1.heap.size 9 i0 (.string ⟨#[]⟩) 1 16 Tryz.underlying22 hinf hz0 hz1 hz2 rfl (by decide) _ _ _ rfl hop1 (wr.heap.size + 1) (some ⟨wr.heap.size, 0, none⟩) 1 1 [.string (s.extract 1 s.size)] rfl ?c1 ?c2 ?c3 ?c4 ?c5 ?_))
          case c1 => exact reads_newV wr _ _ _ rfl rfl rfl (Nat.lt_succ_self _)
          case c2 => simp [Value.oneCell']
          case c3 => unfold maxLen; omega
          case c4 => omega
          case c5 => simp; omega
          intro v4 w4 hown4 hgrow4 hlink4
          have HB4 : Hid (Below w1.heap.size w1 w4) := HB9.out.grown hgrow4 HB9.out.size (fun q hq => (hop1.lt q hq).1)
          have HL4 : Hid (w4.ownsRow w1.heap.size 9 1 (.slice AL p cL) G.recs.length (strs (Sm.texts G.recs))) := by
            have h1 := HLV.out.alloc (.cells #[.string (s.extract 1 s.size)] 9)
            rw [HPP.out] at h1 ⊢
            exact own_keep' h1 (fun q hq => hgrow4.block q (h1.lt q hq).2 (fun e => HAP.out q (by rw [HMM.out]; exact e.symm) (by rw [HPP.out]; exact hq)))
          have HAP2 : Hid (∀ q, v4.ownBlock = some q → (Value.slice AL p cL).ownBlock ≠ some q) := by
            intro q hq e9
            rcases hlink4 with e | e
            · exact HAP.out q (by rw [HMM.out, ← e]; exact hq) (by rw [HPP.out]; exact e9)
            · rw [hq] at e
              injection e with e
              have h1 := (HLV.out.lt q (by rw [HPP.out]; exact e9)).2
              have hq2 := size_alloc_one wr (Obj.cells #[.string (s.extract 1 s.size)] 9)
              omega
          have HO4 : Hid (w4.ownsRow w1.heap.size 9 1 v4 (o ++ [r]).length (strs (Sm.texts (o ++ [r])))) := by
            show World.ownsRow _ _ _ _ _ _ _
            rw [texts_append, strs_append, texts_one HREST.out, List.length_append, HMM.out]
            exact hown4
          clear hgrow4 hlink4 hown4 hop1
          go_wp2
          go_roundw
          case rel => exact ⟨k + 1, a + (s.size + 8), o ++ [r], G, hlt, by go_num, by go_num, rfl, rfl, HGO2.out, HAK.out, HL4.out, HO4.out, HAP2.out, HB4.out, by show _ ≤ _; rw [List.length_append]; exact Nat.add_le_add HOL.out (Nat.le_refl 1), by show _ ≤ _; have := HGL.out; rw [List.length_append]; simp only [List.length_cons, List.length_nil]; omega, Nat.le_succ_of_le HGR.out⟩
          case measure => simp [intOf]; omega
        · have hg1 : ¬ x = 114 := fun e => h114 ((hxx 114).1 e)
          rw [if_neg hg1] at hgo
          have hb1 : ((xn : Int) == 114) = false := beq_false_of_ne (by omega)
          by_cases h99 : xn = 99
          · have hg2 : x = 99 := (hxx 99).2 h99
            rw [if_pos hg2] at hgo
            have hb2' : ((xn : Int) != 99) = false := by rw [h99]; rfl
            obtain ⟨t, ht⟩ : ∃ t, s.extract 1 s.size = t := ⟨_, rfl⟩
            have hts : t.size ≤ 100000000 := by rw [← ht]; have := Sm.extract_size s 1 s.size (Nat.le_refl _); omega
            have htk := fun h => Wi.numTells_le (s := t) (Nat.zero_le _) h
            rw [ht] at hcnt
            have HT := Lib.hid ht
            obtain ⟨xe, hxe⟩ : ∃ e, (Wi.numTells t 0).2.2 = e := ⟨_, rfl⟩
            obtain ⟨kk, hkk⟩ : ∃ e, (Wi.numTells t 0).2.1 = e := ⟨_, rfl⟩
            obtain ⟨vv, hvv⟩ : ∃ e, (Wi.numTells t 0).1 = e := ⟨_, rfl⟩
            rw [hxe, hkk, hvv] at hcnt
            rw [hxe, hkk] at htk
            have HXE := Lib.hid hxe; have HKK := Lib.hid hkk; have HVV := Lib.hid hvv
            obtain ⟨W2, HW2⟩ : ∃ W, Hid (wr.alloc (.cells #[.string t, .int .i64 0] 175) = W) := ⟨_, rfl⟩
            have HB2 : Hid (Below w1.heap.size w1 W2) := by show Below _ _ _; rw [← HW2.out]; exact HB.out.alloc hszr _
            have HRD : Hid (Wi.RrAt wr.heap.size 0 t W2) := by show Wi.RrAt _ _ _ _; rw [← HW2.out]; exact heap_alloc_new wr _
            have HLV2 : Hid (W2.ownsRow w1.heap.size 9 1 (.slice AL p cL) p (strs (Sm.texts G.recs))) := by have h := HLV.out.alloc (.cells #[.string t, .int .i64 0] 175); rw [HW2.out, HPP.out] at h; exact h
            have HOP2 : Hid (W2.ownsRow w1.heap.size 9 1 (.slice A2 m c2) m (strs (Sm.texts o))) := by have h := HOP.out.alloc (.cells #[.string t, .int .i64 0] 175); rw [HW2.out, HMM.out] at h; exact h
            have HLT : Hid (∀ q, (Value.slice AL p cL).ownBlock = some q ∨ (Value.slice A2 m c2).ownBlock = some q → q < wr.heap.size) := fun q hq => by
              rcases hq with hq | hq
              · exact (HLV.out.lt q (by rw [HPP.out]; exact hq)).2
              · exact (HOP.out.lt q (by rw [HMM.out]; exact hq)).2
            have HAPX : Hid (∀ q, (Value.slice A2 m c2).ownBlock = some q → (Value.slice AL p cL).ownBlock ≠ some q) := fun q hq e9 => HAP.out q (by rw [HMM.out]; exact hq) (by rw [HPP.out]; exact e9)
            obtain ⟨g, hg⟩ : ∃ g, wr.heap.size = g := ⟨_, rfl⟩
            clear hg1 hg2 h114 h99 hxx ht hxe hkk hvv HREST hg
            go_upto_region 13 with (fail)
            rw [HT.out]
            rw [HW2.out]
            by_cases hx0 : xe = 0
            · subst hx0
              have hkle := htk rfl
              have NK := Wi.rrNum_ok wr.heap.size t W2 HRD.out (by omega) HXE.out
              rw [HKK.out, HVV.out] at NK
              have HNK := Lib.hid NK
              clear NK htk
              go_wp2_with fail
              refine HNK.out.mono ?_
              rintro e w3 ⟨rfl, hrd3, hm3⟩
              have HRD3 := Lib.hid hrd3
              have hgw : wr.heap.size < W2.heap.size := HRD.out.lt
              have HB3 : Hid (Below w1.heap.size w1 w3) := HB2.out.trans (hm3.below (fun q hq => by simp at hq; omega) HB2.out.size)
              have HLV3 := Lib.hid (own_keep' HLV2.out (fun q hq => hm3.block q (HLV2.out.lt q hq).2 (by have := HLT.out q (.inl hq); simp; omega)))
              have HOP3 := Lib.hid (own_keep' HOP2.out (fun q hq => hm3.block q (HOP2.out.lt q hq).2 (by have := HLT.out q (.inr hq); simp; omega)))
              clear hrd3 hm3
              have hz3 : (t.extract kk t.size).size = t.size - kk := by rw [ByteArray.size_extract]; omega
              have EN := Wi.rrEnd_any wr.heap.size (t.extract kk t.size) 0 w3 HRD3.out (by omega)
              rw [hz3, if_neg (show ¬ ((0 : Int) ≠ 0) by decide)] at EN
              clear hz3
              by_cases hke : kk = t.size
              · rw [if_neg (by omega)] at EN
                have HEN := Lib.hid EN
                clear EN
                by_cases hvm : vv = (m : Int)
                · have HGO2 : Hid (Wal.good (fs.drop (k + 1)) [] (a + (s.size + 8)) ⟨G.recs ++ o, G.groups + 1, a + (s.size + 8)⟩ = R) := by
                    show _ = _
                    rw [hcnt, HMM.out, decide_eq_true hke, decide_eq_true hvm] at hgo
                    simpa using hgo
                  have hb3 : (vv != (m : Int)) = false := by rw [hvm]; simp
                  have hrd := Reads.of_own HOP3.out
                  have hlv3 := HLV3.out
                  clear hgo hcnt hvm hke
                  go_wp2_with fail
                  refine HEN.out.mono ?_
                  rintro e w4 ⟨rfl, hw4⟩
                  obtain rfl : w3 = w4 := hw4
                  go_wp2_with (at_builtin; go_loud (refine wpList_append_any _ rfl _ _ 22 rfl w1.heap.size 9 i0 (.string ⟨#[]⟩) 1 16 Tryz.underlying22 hinf hz0 hz1 hz2 rfl (by decide) _ _ _ rfl hlv3 w3.heap.size A2 m c2 (strs (Sm.texts o)) rfl ?c1 ?c2 ?c3 ?c4 ?c5 ?_))
                  case c1 => exact hrd
                  case c2 => simp [strs, Value.oneCell']
                  case c3 => unfold maxLen; omega
                  case c4 => omega
                  case c5 => exact HB3.out.size
                  intro v4 w4 hown4 hgrow4 hlink4
                  have HB4 : Hid (Below w1.heap.size w1 w4) := HB3.out.grown hgrow4 HB3.out.size (fun q hq => (hlv3.lt q hq).1)
                  have HL4 : Hid (w4.ownsRow w1.heap.size 9 1 v4 (G.recs ++ o).length (strs (Sm.texts (G.recs ++ o)))) := by
                    show World.ownsRow _ _ _ _ _ _ _
                    rw [texts_append, strs_append, List.length_append, HPP.out, HMM.out]
                    exact hown4
                  clear hgrow4 hlink4 hown4 hlv3 hrd
                  go_wp2
                  go_roundw
                  case rel => exact ⟨k + 1, a + (s.size + 8), [], ⟨G.recs ++ o, G.groups + 1, a + (s.size + 8)⟩, hlt, by go_num, by go_num, by go_num, by go_num, HGO2.out, HAK.out, HL4.out, World.ownsRow_nil _ _ _ _, fun q hq => by simp [Value.ownBlock] at hq, HB4.out, by show _ ≤ _; simp, by show _ ≤ _; have := HGL.out; simp only [List.length_append, List.length_nil]; omega, Nat.succ_le_succ HGR.out⟩
                  case measure => simp [intOf]; omega
                · have HR : Hid (G = R) := by
                    show _ = _
                    rw [hcnt, HMM.out, decide_eq_false hvm, Bool.and_false, Bool.and_false] at hgo
                    simpa using hgo
                  have hb3 : (vv != (m : Int)) = true := by simpa using hvm
                  clear hgo hcnt hvm hke
                  go_wp2_with fail
                  refine HEN.out.mono ?_
                  rintro e w4 ⟨rfl, hw4⟩
                  obtain rfl : w3 = w4 := hw4
                  go_wp2
                  go_ret3
                  refine ⟨_, by rw [← HR.out]; rfl, ?_, HB1.out.trans (HB3.out.mono HB1.out.size)⟩
                  rw [← HR.out, HPP.out]
                  have h9 := HLV3.out
                  first | exact own_weak h9 hz1' | (rw [HPP.out] at h9; exact own_weak h9 hz1')
              · rw [if_pos (by omega)] at EN
                have HEN := Lib.hid EN
                have HR : Hid (G = R) := by
                  show _ = _
                  rw [hcnt, decide_eq_false hke, Bool.false_and, Bool.and_false] at hgo
                  simpa using hgo
                clear EN hgo hcnt hke
                go_wp2_with fail
                refine HEN.out.mono ?_
                rintro e w4 ⟨rfl, hw4⟩
                obtain rfl : w3 = w4 := hw4
                go_wp2
                go_ret3
                refine ⟨_, by rw [← HR.out]; rfl, ?_, HB1.out.trans (HB3.out.mono HB1.out.size)⟩
                rw [← HR.out, HPP.out]
                have h9 := HLV3.out
                first | exact own_weak h9 hz1' | (rw [HPP.out] at h9; exact own_weak h9 hz1')
            · have HR : Hid (G = R) := by
                show _ = _
                rw [hcnt, decide_eq_false hx0, Bool.false_and] at hgo
                simpa using hgo
              have NB := Lib.hid (Wi.rrNum_bad wr.heap.size t xe W2 HRD.out (by omega) hx0 HXE.out)
              clear hgo hcnt htk
              go_wp2_with fail
              refine NB.out.mono ?_
              rintro e w3 ⟨rfl, hrd3, hm3⟩
              have HRD3 := Lib.hid hrd3
              have hgw : wr.heap.size < W2.heap.size := HRD.out.lt
              have HB3 : Hid (Below w1.heap.size w1 w3) := HB2.out.trans (hm3.below (fun q hq => by simp at hq; omega) HB2.out.size)
              have HLV3 := Lib.hid (own_keep' HLV2.out (fun q hq => hm3.block q (HLV2.out.lt q hq).2 (by have := HLT.out q (.inl hq); simp; omega)))
              have HOP3 := Lib.hid (own_keep' HOP2.out (fun q hq => hm3.block q (HOP2.out.lt q hq).2 (by have := HLT.out q (.inr hq); simp; omega)))
              clear hrd3 hm3
              have EN := Wi.rrEnd_any wr.heap.size t xe w3 HRD3.out (by omega)
              rw [if_pos hx0] at EN
              have HEN := Lib.hid EN
              have hb5 : (xe != 0) = true := by simp [hx0]
              clear EN
              go_wp2_with fail
              refine HEN.out.mono ?_
              rintro e w4 ⟨rfl, hw4⟩
              obtain rfl : w3 = w4 := hw4
              go_wp2
              go_ret3
              refine ⟨_, by rw [← HR.out]; rfl, ?_, HB1.out.trans (HB3.out.mono HB1.out.size)⟩
              rw [← HR.out, HPP.out]
              have h9 := HLV3.out
              first | exact own_weak h9 hz1' | (rw [HPP.out] at h9; exact own_weak h9 hz1')
          · have hg2 : ¬ x = 99 := fun e => h99 ((hxx 99).1 e)
            rw [if_neg hg2] at hgo
            have HR := Lib.hid hgo
            have hb2' : ((xn : Int) != 99) = true := by simp; omega
            clear hgo hcnt hg1 hg2 h114 h99 hxx HREST
            go_wp2
            go_ret3
            refine ⟨_, by rw [← HR.out]; rfl, ?_, HB1.out.trans (HB.out.mono HB1.out.size)⟩
            rw [← HR.out, HPP.out]
            have h9 := HLV.out
            first | exact own_weak h9 hz1' | (rw [HPP.out] at h9; exact own_weak h9 hz1')
    · have hkn : k = n := by omega
      have HR : Hid (G = R) := by
        have h1 := HGO.out
        rw [List.drop_eq_nil_of_le (by rw [HN.out]; omega), Wal.good_end] at h1
        exact h1
      clear hkn
      go_wp2
      go_ret3
      refine ⟨_, by rw [← HR.out]; rfl, ?_, HB1.out.trans (HB.out.mono HB1.out.size)⟩
      rw [← HR.out, HPP.out]
      have h9 := HLV.out
      first | exact own_weak h9 hz1' | (rw [HPP.out] at h9; exact own_weak h9 hz1')
end Go.Proofs.YtfmbadinfhpihaaGreat
