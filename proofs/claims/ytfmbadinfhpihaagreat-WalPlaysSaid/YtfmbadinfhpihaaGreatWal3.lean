/-
  Package wal: the groups at the front of bytes are what the plain law finds.
  Conditions: bytes of at most 10^8.
-/
import Derived.Test.YtfmbadinfhpihaaGreatWalPlain
import Derived.Test.YtfmbadinfhpihaaGreatSum3
import Derived.Test.YtfmbadinfhpihaaGreatWire7B
import Derived.Test.YtfmbadinfhpihaaGreatDisk12
import Derived.Test.YtfmbadinfhpihaaGreatWords2
import Derived.Deep.RegionLaw
import Derived.Deep.DrawnRows
import Derived.Outline
set_option linter.unusedVariables false
set_option linter.unusedSimpArgs false
namespace Go.Proofs.YtfmbadinfhpihaaGreat
open Go.RowKit

/-- A log, in plain words. -/
structure Lg where
  recs : List ByteArray
  groups : Nat
  size : Nat
  broken : Bool
/-- A log in block g, of the disk in block c; S are its blocks. -/
def LogAt (g c : Nat) (S : List Nat) (nm : ByteArray) (st : Lg) (w : World) : Prop :=
  ∃ v, S = g :: v.ownBlock.toList ∧ w.heap[g]? = some (.cells #[.pointer (some ⟨c, 0, none⟩), .string nm, v, .int .i64 st.groups, .int .i64 st.size, .bool st.broken] 27 (0, 0)) ∧ w.ownsRow 0 9 1 v st.recs.length (strs st.recs) ∧ v.ownBlock ≠ some g
section
variable {g c : Nat} {S T T' : List Nat} {nm : ByteArray} {st : Lg} {w w' : World}
theorem LogAt.own (h : LogAt g c S nm st w) : g ∈ S := by obtain ⟨v, rfl, _⟩ := h; simp
theorem LogAt.keep (h : LogAt g c S nm st w) (hb : ∀ k, k ∈ S → w'.heap[k]? = w.heap[k]?) : LogAt g c S nm st w' := by
  obtain ⟨v, rfl, h2, h3, h4⟩ := h
  exact ⟨v, rfl, by rw [hb g (by simp)]; exact h2, Wi.ownsRow_keep h3 (fun k hk => hb k (by simp [hk])), h4⟩
theorem LogAt.lt (h : LogAt g c S nm st w) : g < w.heap.size := by obtain ⟨v, _, h2, _⟩ := h; exact Blk.lt h2
theorem LogAt.there (h : LogAt g c S nm st w) : ∀ k, k ∈ S → k < w.heap.size := by
  have h1 := h.lt
  obtain ⟨v, rfl, h2, h3, h4⟩ := h
  intro k hk
  simp only [List.mem_cons, Option.mem_toList] at hk
  rcases hk with rfl | hk
  · exact h1
  · exact (h3.lt k hk).2
theorem LogAt.drewN (h : LogAt g c S nm st w) (n : Nat) : LogAt g c S nm st (w.drewN n) := h
theorem LogAt.alloc (h : LogAt g c S nm st w) (o : Obj) : LogAt g c S nm st (w.alloc o) := h.keep fun k hk => Below.heap_alloc w o k (h.there k hk)
theorem LogAt.below (h : LogAt g c S nm st w) (hb : Below w.heap.size w w') : LogAt g c S nm st w' := h.keep fun k hk => hb.block k (h.there k hk)
theorem LogAt.aside (h : LogAt g c S nm st w) (hm : Mv T T' w w') (ha : ∀ k, k ∈ S → k ∉ T) : LogAt g c S nm st w' := h.keep fun k hk => hm.block k (h.there k hk) (ha k hk)
theorem LogAt.frozen (h : LogAt g c S nm st w) (i : Nat) : w.frozen? ⟨g, i, none⟩ = false := by obtain ⟨v, _, hb, _⟩ := h; exact Lib.frozen_of_heap hb i
theorem LogAt.cell0 (h : LogAt g c S nm st w) : w.cell? ⟨g, 0, none⟩ = some (.pointer (some ⟨c, 0, none⟩)) := by obtain ⟨v, _, h2, _⟩ := h; rw [Lib.cell_of_heap h2]; rfl
theorem LogAt.cell1 (h : LogAt g c S nm st w) : w.cell? ⟨g, 1, none⟩ = some (.string nm) := by obtain ⟨v, _, h2, _⟩ := h; rw [Lib.cell_of_heap h2]; rfl
theorem LogAt.cell3 (h : LogAt g c S nm st w) : w.cell? ⟨g, 3, none⟩ = some (.int .i64 st.groups) := by obtain ⟨v, _, h2, _⟩ := h; rw [Lib.cell_of_heap h2]; rfl
theorem LogAt.cell4 (h : LogAt g c S nm st w) : w.cell? ⟨g, 4, none⟩ = some (.int .i64 st.size) := by obtain ⟨v, _, h2, _⟩ := h; rw [Lib.cell_of_heap h2]; rfl
theorem LogAt.cell5 (h : LogAt g c S nm st w) : w.cell? ⟨g, 5, none⟩ = some (.bool st.broken) := by obtain ⟨v, _, h2, _⟩ := h; rw [Lib.cell_of_heap h2]; rfl
/-- The number of groups turned; the bytes; broken. -/
theorem LogAt.set3 (h : LogAt g c S nm st w) (x : Nat) : LogAt g c S nm { st with groups := x } (w.setCell ⟨g, 3, none⟩ (.int .i64 x)) := by
  obtain ⟨v, rfl, h2, h3, h4⟩ := h
  exact ⟨v, rfl, Blk.set_ (show Blk w g 27 _ from h2) 3 _, Wi.ownsRow_keep h3 (fun k hk => Below.heap_setCell _ _ _ _ (fun e => h4 (by rw [hk]; exact congrArg some e))), h4⟩
theorem LogAt.set4 (h : LogAt g c S nm st w) (x : Nat) : LogAt g c S nm { st with size := x } (w.setCell ⟨g, 4, none⟩ (.int .i64 x)) := by
  obtain ⟨v, rfl, h2, h3, h4⟩ := h
  exact ⟨v, rfl, Blk.set_ (show Blk w g 27 _ from h2) 4 _, Wi.ownsRow_keep h3 (fun k hk => Below.heap_setCell _ _ _ _ (fun e => h4 (by rw [hk]; exact congrArg some e))), h4⟩
theorem LogAt.set5 (h : LogAt g c S nm st w) (x : Bool) : LogAt g c S nm { st with broken := x } (w.setCell ⟨g, 5, none⟩ (.bool x)) := by
  obtain ⟨v, rfl, h2, h3, h4⟩ := h
  exact ⟨v, rfl, Blk.set_ (show Blk w g 27 _ from h2) 5 _, Wi.ownsRow_keep h3 (fun k hk => Below.heap_setCell _ _ _ _ (fun e => h4 (by rw [hk]; exact congrArg some e))), h4⟩
/-- The row of records turned: a row of its own that is not the log's block. -/
theorem LogAt.set2 (h : LogAt g c S nm st w) {v : Value} {rs : List ByteArray} (ho : w.ownsRow 0 9 1 v rs.length (strs rs)) (hn : v.ownBlock ≠ some g) : LogAt g c (g :: v.ownBlock.toList) nm { st with recs := rs } (w.setCell ⟨g, 2, none⟩ v) := by
  obtain ⟨v0, rfl, h2, h3, h4⟩ := h
  exact ⟨v, rfl, Blk.set_ (show Blk w g 27 _ from h2) 2 _, Wi.ownsRow_keep ho (fun k hk => Below.heap_setCell _ _ _ _ (fun e => hn (by rw [hk]; exact congrArg some e))), hn⟩
end
end Go.Proofs.YtfmbadinfhpihaaGreat
namespace Go.Proofs.YtfmbadinfhpihaaGreat
open Go.RowKit
set_option maxRecDepth 100000

def cntV (s : ByteArray) : Int := (Wi.rdNum (s.extract 1 s.size) ⟨0, 0⟩).1
def cntB (s : ByteArray) : Bool := Wi.endOf (s.extract 1 s.size) (Wi.rdNum (s.extract 1 s.size) ⟨0, 0⟩).2 == 0
theorem numTells_le {s : ByteArray} {k : Nat} (hk : k ≤ s.size) (h0 : (Wi.numTells s k).2.2 = 0) : (Wi.numTells s k).2.1 ≤ s.size := by
  cases hd : Wire.dec 0 0 (s.data.toList.drop k) with
  | error x =>
    rw [Wi.numTells_err hd] at h0
    rcases Wire.dec_err _ _ _ _ hd with rfl | rfl <;> simp at h0
  | ok r =>
    obtain ⟨N, m⟩ := r
    obtain ⟨_, h2, _, _⟩ := Wire.enc_dec0 hd
    rw [Wi.numTells_ok hd]
    rw [List.length_drop, len_data] at h2
    show k + m ≤ s.size
    omega
theorem rdNum_le (s : ByteArray) (r : Wi.Rd) (hk : r.k ≤ s.size) : (Wi.rdNum s r).2.k ≤ s.size := by
  unfold Wi.rdNum
  split
  · exact hk
  · split
    · exact hk
    · rename_i h1 h2
      exact numTells_le hk (by simpa using h2)
theorem cnt_is {s : ByteArray} {c : UInt8} {r : List UInt8} (hs : s.data.toList = c :: r) (n : Nat) : Wal.countB r n = (cntB s && decide (cntV s = (n : Int))) := by
  have hd : (s.extract 1 s.size).data.toList = r := by rw [Sm.extract_tail, hs]; rfl
  have hz : (s.extract 1 s.size).size = r.length := by rw [← len_data, hd]
  unfold Wal.countB cntB cntV Wi.rdNum
  rw [if_neg (show ¬ ((0 : Int) ≠ 0) by decide)]
  cases hr : Wire.dec 0 0 r with
  | error x =>
    have hnt : Wi.numTells (s.extract 1 s.size) 0 = (0, 0, (x : Int)) := Wi.numTells_err (by rw [List.drop_zero, hd]; exact hr)
    have hx : (x : Int) ≠ 0 := by rcases Wire.dec_err _ _ _ _ hr with rfl | rfl <;> decide
    simp only [hnt]
    rw [if_pos hx]
    have : Wi.endOf (s.extract 1 s.size) ⟨(x : Int), 0⟩ = x := by unfold Wi.endOf; rw [if_pos hx]
    show false = _
    simp only [this]
    have hb : ((x : Int) == 0) = false := beq_false_of_ne hx
    rw [hb]
    rfl
  | ok p =>
    obtain ⟨N, m⟩ := p
    have hnt : Wi.numTells (s.extract 1 s.size) 0 = (Wire.unzz N, 0 + m, 0) := Wi.numTells_ok (by rw [List.drop_zero, hd]; exact hr)
    obtain ⟨_, h2, _, _⟩ := Wire.enc_dec0 hr
    simp only [hnt]
    rw [if_neg (show ¬ ((0 : Int) ≠ 0) by decide)]
    show (m == r.length && Wire.unzz N == (n : Int)) = (Wi.endOf (s.extract 1 s.size) ⟨0, 0 + m⟩ == 0 && decide (Wire.unzz N = (n : Int)))
    have : (Wi.endOf (s.extract 1 s.size) ⟨0, 0 + m⟩ == 0) = (m == r.length) := by
      unfold Wi.endOf
      rw [if_neg (show ¬ ((0 : Int) ≠ 0) by decide), hz, Nat.zero_add]
      by_cases h : m < r.length
      · show ((if m < r.length then (4 : Int) else 0) == 0) = _
        rw [if_pos h]
        have : (m == r.length) = false := beq_false_of_ne (by omega)
        rw [this]; rfl
      · show ((if m < r.length then (4 : Int) else 0) == 0) = _
        rw [if_neg h]
        have : m = r.length := by omega
        rw [this]; simp
    rw [this]
    congr 1
set_option maxHeartbeats 1000000 in
theorem count_any (s : ByteArray) (h1 : 1 ≤ s.size) (hs : s.size ≤ 1000000000) (w : World) :
    Calls Tryz.prog 147 #[.string s] w fun e w' => e = .returned (.tuple #[.int .i64 (cntV s), .bool (cntB s)]) ∧ Below w.heap.size w w' := by
  have hz : (s.extract 1 s.size).size = s.size - 1 := Sm.extract_size _ _ _ (Nat.le_refl _)
  have hle := rdNum_le (s.extract 1 s.size) ⟨0, 0⟩ (Nat.zero_le _)
  unfold cntV cntB
  obtain ⟨t, ht⟩ : ∃ t, s.extract 1 s.size = t := ⟨_, rfl⟩
  have HT := Lib.hid ht
  rw [ht] at hz hle ⊢
  have hts : t.size ≤ 1000000000 := by omega
  obtain ⟨x, hx⟩ : ∃ x, Wi.rdNum t ⟨0, 0⟩ = x := ⟨_, rfl⟩
  have HX := Lib.hid hx
  rw [hx] at hle ⊢
  obtain ⟨en, hen⟩ : ∃ en, Wi.endOf t x.2 = en := ⟨_, rfl⟩
  have HEN := Lib.hid hen
  rw [hen]
  clear hz ht hx hen
  go_enter Tryz.func147, Tryz.ntmps147
  go_wp2_with fail
  rw [HT.out]
  refine (Wi.newReader_any t _ hts).mono ?_
  rintro e w1 ⟨g, rfl, hg, hrd, hb1⟩
  have HR1 := Lib.hid hrd
  have HB1 := Lib.hid hb1
  have q := Wi.rNum_any g t ⟨0, 0⟩ w1 hrd (Nat.zero_le _) hts
  rw [HX.out] at q
  clear hrd hb1
  go_wp2_with fail
  refine q.mono ?_
  rintro e w2 ⟨rfl, hrd2, hm2⟩
  have HB2 : Hid (Below w.heap.size w w2) := by
    show Below _ _ _
    exact HB1.out.trans ⟨hm2.os, hm2.tape, hm2.output, hm2.size, fun k hk => hm2.block k (Nat.lt_of_lt_of_le hk HB1.out.size) (by simp; omega)⟩
  have q3 := Wi.end_any g t x.2 w2 hrd2 hle hts
  rw [HEN.out] at q3
  clear hrd2 hm2 q
  go_wp2_with fail
  refine q3.mono ?_
  rintro e w3 ⟨rfl, n3, rfl⟩
  go_wp2
  go_ret2
  exact ⟨rfl, drewN_below HB2.out n3⟩
end Go.Proofs.YtfmbadinfhpihaaGreat
namespace Go.Proofs.YtfmbadinfhpihaaGreat
open Go.RowKit
set_option maxRecDepth 100000
attribute [local go_sem ↓] Go.wp_at_zero Go.wp_at_succ

theorem info_string : (Tryz.prog.info? 9).map (fun i => (i.zero, i.size, i.bytes)) = some (some (.string ⟨#[]⟩), 1, 16) := by kernel_rfl
def lgOf (G : Wal.Gs) (br : Bool) : Lg := ⟨Sm.texts G.recs, G.groups, G.size, br⟩
theorem texts_len (l : List (List UInt8)) : (Sm.texts l).length = l.length := by simp [Sm.texts]
theorem texts_append (a b : List (List UInt8)) : Sm.texts (a ++ b) = Sm.texts a ++ Sm.texts b := by simp [Sm.texts]
theorem strs_append (a b : List ByteArray) : strs (a ++ b) = strs a ++ strs b := by simp [strs]
/-- One text framed. -/
theorem frame1_any (s : ByteArray) (b c : Nat) (w : World) (hb : b = w.heap.size) (hs : s.size ≤ 500000000) :
    Calls Tryz.prog 146 #[.slice (some ⟨b, 0, none⟩) 1 c] (w.alloc (.cells #[.string s] 9)) fun e w' => ∃ fr : ByteArray, e = .returned (.string fr) ∧ fr.size = s.size + 8 ∧ Below w.heap.size w w' := by
  subst hb
  refine (Sm.frame_any [s] (some ⟨w.heap.size, 0, none⟩) c _ ((Sm.reads_one w s 9).more (by simp)) (by simp [total]; omega)).mono ?_
  rintro e w' ⟨rfl, hb⟩
  refine ⟨_, rfl, ?_, ((Below.refl _ _).alloc (Nat.le_refl _) _).trans (hb.mono (by simp))⟩
  rw [← len_data, Sm.data_mk]
  have := Wal.frames_one s.data.toList
  simpa [Sm.datas] using this
/-- What stands behind the three stores of a group taken. -/
theorem LogAt.put {g c : Nat} {nm : ByteArray} {w : World} {v0 v : Value} {rs : List ByteArray} {n gr sz x y : Nat} {xi yi : Int} {br : Bool} (hn : rs.length = n)
    (hbk : w.heap[g]? = some (.cells #[.pointer (some ⟨c, 0, none⟩), .string nm, v0, .int .i64 gr, .int .i64 sz, .bool br] 27 (0, 0)))
    (ho : w.ownsRow 0 9 1 v n (strs rs)) (hne : v.ownBlock ≠ some g) (hx : xi = (x : Int)) (hy : yi = (y : Int)) :
    LogAt g c (g :: v.ownBlock.toList) nm ⟨rs, x, y, br⟩ (((w.setCell ⟨g, 2, none⟩ v).setCell ⟨g, 3, none⟩ (.int .i64 xi)).setCell ⟨g, 4, none⟩ (.int .i64 yi)) := by
  subst hn hx hy
  have hk : ∀ k, v.ownBlock = some k → k ≠ g := fun k hk e => hne (by rw [hk, e])
  refine ⟨v, rfl, Blk.set_ (Blk.set_ (Blk.set_ (show Blk w g 27 _ from hbk) 2 _) 3 _) 4 _, ?_, hne⟩
  exact Wi.ownsRow_keep (Wi.ownsRow_keep (Wi.ownsRow_keep ho (fun k h => Below.heap_setCell _ _ _ _ (hk k h))) (fun k h => Below.heap_setCell _ _ _ _ (hk k h))) (fun k h => Below.heap_setCell _ _ _ _ (hk k h))
theorem size_alloc_one (w : World) (o : Obj) : (w.alloc o).heap.size = w.heap.size + 1 := by simp
theorem byte_head {s : ByteArray} {c : UInt8} {r : List UInt8} (h : s.data.toList = c :: r) : ∃ h0 : 0 < s.size, s[0] = c ∧ s.size = r.length + 1 ∧ (s.extract 1 s.size).data.toList = r := by
  have hz : s.size = r.length + 1 := by rw [← len_data, h]; rfl
  refine ⟨by omega, ?_, hz, by rw [Sm.extract_tail, h]; rfl⟩
  have := byte_at s (k := 0) (by omega)
  rw [h] at this
  simpa using this.symm
theorem texts_one {s : ByteArray} {r : List UInt8} (h : s.data.toList = r) : Sm.texts [r] = [s] := by
  subst h
  rfl

set_option maxHeartbeats 4000000 in
theorem good_any (g c : Nat) (T : List Nat) (nm : ByteArray) (br : Bool) (b : ByteArray) (hbs : b.size ≤ 100000000) (w : World) (h : LogAt g c T nm (lgOf Wal.none_ br) w) :
    Calls Tryz.prog 40 #[.pointer (some ⟨g, 0, none⟩), .string b] w fun e w' => e = .returned (.tuple #[]) ∧ ∃ T', LogAt g c T' nm (lgOf (Wal.goodOf b.data.toList) br) w' ∧ Mv T T' w w' := by
  obtain ⟨i0, hinf, hz0, hz1, hz2⟩ := info_parts info_string
  have hfr := Sum.scan_framed b.data.toList
  have hle := Sum.scan_le b.data.toList
  have HTH := Lib.hid h.there
  have HL := Lib.hid h
  have hscan := Sm.scan_any b w (by omega)
  have HG : Hid (Wal.goodOf b.data.toList = Wal.good (Sum.scan b.data.toList).1 [] 0 Wal.none_) := rfl
  obtain ⟨fs, hfs⟩ : ∃ fs, (Sum.scan b.data.toList).1 = fs := ⟨_, rfl⟩
  have hfl : (Sum.frames fs).length ≤ b.size := by
    rw [← hfs, hfr, List.length_take, ← len_data]
    exact Nat.min_le_right _ _
  rw [hfs] at HG hscan
  obtain ⟨n, hn⟩ : ∃ n, fs.length = n := ⟨_, rfl⟩
  have hnl : 8 * n ≤ b.size := by
    have := Sum.frames_length fs
    rw [hn] at this
    omega
  rw [hn] at hscan
  obtain ⟨R, hR⟩ : ∃ R, Wal.goodOf b.data.toList = R := ⟨_, rfl⟩
  rw [hR] at HG ⊢
  obtain ⟨x2, hx2⟩ : ∃ x, (Sum.scan b.data.toList).2 = x := ⟨_, rfl⟩
  rw [hx2] at hscan
  have HN := Lib.hid hn
  have HS := Lib.hid hscan
  have HFL := Lib.hid hfl
  clear h hscan hfs hn hR hx2 hfr hle hfl
  go_enter Tryz.func40, Tryz.ntmps40
  go_wp2_with fail
  refine HS.out.mono ?_
  rintro e w1 ⟨A, cp, rfl, hown1, hb1⟩
  have HO1 := Lib.hid hown1
  have HB1 := Lib.hid hb1
  have hz1' := hb1.size
  clear hown1 hb1
  go_wp2
  go_loopw [6, 7, 19] (fun op ta i wr => ∃ (k a : Nat) (o : List (List UInt8)) (G : Wal.Gs) (T' : List Nat), k ≤ n ∧ i = .int .i64 k ∧ ta = .int .i64 a ∧ Hid (Wal.good (fs.drop k) o a G = R) ∧ Hid (a = (Sum.frames (fs.take k)).length) ∧
      Hid (LogAt g c T' nm (lgOf G br) wr) ∧ Hid (wr.ownsRow w1.heap.size 9 1 op o.length (strs (Sm.texts o))) ∧ Hid (Mv T T' w1 wr) ∧ Hid (∀ q, op.ownBlock = some q → q ∉ T') ∧ Hid (o.length ≤ k) ∧ Hid (G.recs.length + o.length ≤ k) ∧ Hid (G.groups ≤ k)) (fun _ _ i _ => n - (intOf i).toNat)
  case atStart =>
    exact ⟨0, 0, [], Wal.none_, T, Nat.zero_le _, rfl, rfl, HG.out.symm, rfl, HL.out.below (HB1.out.mono (Nat.le_refl _)), World.ownsRow_nil _ _ _ _, Mv.refl _ _, fun q hq => by simp [Value.ownBlock] at hq, Nat.le_refl _, Nat.le_refl _, Nat.le_refl _⟩
  case round =>
    obtain ⟨k, a, o, G, T', hk, rfl, rfl, HGO, HA, HLG, HOP, HM, HAP, HOL, HGL, HGR⟩ := hrel
    by_cases hlt : k < n
    · have hszr := HM.out.size
      have hownr : wr.ownsRow w.heap.size 9 1 (.slice A n cp) n (strs (Sm.texts fs)) := Wi.ownsRow_keep HO1.out (fun q hq => HM.out.block q (HO1.out.lt q hq).2 (fun e => by have := (HO1.out.lt q hq).1; have := HTH.out q e; omega))
      obtain ⟨ad, s, rfl, hab, hsk, hcell⟩ := str_at (Reads.of_own hownr) hlt
      have hsf : fs[k]? = some s.data.toList := by
        simp only [Sm.texts, List.getElem?_map, Option.map_eq_some_iff] at hsk
        obtain ⟨l, hl, rfl⟩ := hsk
        rw [hl, Sm.data_mk]
      have hak : (Sum.frames (fs.take (k + 1))).length = (Sum.frames (fs.take k)).length + (s.size + 8) := by
        rw [take_snoc hsf, Sum.frames_append, List.length_append, Wal.frames_one, len_data]
      have hal : a + (s.size + 8) ≤ b.size := by
        have h1 : (Sum.frames (fs.take (k + 1))).length ≤ (Sum.frames fs).length := by
          conv => rhs; rw [← List.take_append_drop (k + 1) fs]
          rw [Sum.frames_append, List.length_append]; omega
        have := HFL.out; have := HA.out; omega
      have hdrop := drop_cons hsf
      have HAK : Hid (a + (s.size + 8) = (Sum.frames (fs.take (k + 1))).length) := by show _ = _; rw [hak, ← HA.out]
      obtain ⟨A2, c2, rfl, hc2⟩ := own_form HOP.out
      have hol : o.length ≤ k := HOL.out
      obtain ⟨m, hm⟩ : ∃ m, o.length = m := ⟨_, rfl⟩
      have HMM := Lib.hid hm
      rw [hm] at hol hc2 ⊢
      have HDR := Lib.hid hdrop
      clear hownr hsk hsf hak hdrop hm HA
      cases hcase : s.data.toList with
      | nil =>
        have hemp : s.toList.isEmpty = true := by rw [ByteArray.toList_eq, hcase]; rfl
        have hs0 : s.toList = [] := by rw [ByteArray.toList_eq, hcase]
        have hs0' : s.size = 0 := by rw [← len_data, hcase]; rfl
        have HR : Hid (G = R) := by
          show _ = _
          have h1 := HGO.out
          rw [HDR.out, hcase] at h1
          rw [← h1]
          unfold Wal.good
          rfl
        clear hcase hs0'
        go_wp2_with fail
        refine (frame1_any s _ _ _ rfl (by omega)).mono ?_
        rintro e w2 ⟨fr, rfl, hfr, hb2⟩
        have HL2 := Lib.hid (HLG.out.below hb2)
        have HM2 := Lib.hid (((Mv.of_new HB1.out (fun _ h => .inl h)).trans HM.out).then_below hb2)
        clear hb2
        go_wp2
        refine bodyPost_ret (results_none rfl _ _ _) rfl ?_
        exact ⟨rfl, T', by rw [← HR.out]; exact HL2.out, HM2.out⟩
      | cons x r =>
        obtain ⟨h0, hx0, hsz, hrest⟩ := byte_head hcase
        have hemp : s.toList.isEmpty = false := by rw [ByteArray.toList_eq, hcase]; rfl
        have HSZ := Lib.hid hsz
        have hx256 := x.toNat_lt
        obtain ⟨xn, hxn⟩ : ∃ xn : Nat, x.toNat = xn := ⟨_, rfl⟩
        have hs0 : s[0].toNat = xn := by rw [hx0, hxn]
        rw [hxn] at hx256
        have hgo := HGO.out
        rw [HDR.out, hcase, Wal.good] at hgo
        have hxx : ∀ y : UInt8, x = y ↔ xn = y.toNat := fun y => by rw [← hxn]; exact UInt8.toNat_inj.symm
        have hsr : s.size + 8 = r.length + 9 := by omega
        rw [← hsr] at hgo
        have hcnt := cnt_is hcase o.length
        have HREST := Lib.hid hrest
        have h1s : 1 ≤ s.size := h0
        have hssz : s.size ≤ 100000000 := by omega
        clear hsz hcase hx0 hrest hxn hsr HDR HGO HSZ
        by_cases h114 : xn = 114
        · have hg1 : x = 114 := (hxx 114).2 h114
          rw [if_pos hg1] at hgo
          have HGO2 := Lib.hid hgo
          have hb1 : ((xn : Int) == 114) = true := by rw [h114]; rfl
          clear hgo hg1 h114 hcnt hxx
          go_wp2_with fail
          refine (frame1_any s _ _ _ rfl (by omega)).mono ?_
          rintro e w2 ⟨fr, rfl, hfr, hb2⟩
          have HL2 := Lib.hid (HLG.out.below hb2)
          have HM2 := Lib.hid (HM.out.then_below hb2)
          have hop2 := Wi.ownsRow_keep HOP.out (fun q hq => hb2.block q (HOP.out.lt q hq).2)
          have hsz2 := hb2.size
          rw [HMM.out] at hop2
          clear hb2
          go_wp2_with (at_builtin; refine wpList_append_any _ rfl _ _ 22 rfl w1.heap.size 9 i0 (.string ⟨#[]⟩) 1 16 Tryz.underlying22 hinf hz0 hz1 hz2 rfl (by decide) _ _ _ rfl (hop2.alloc _) (w2.heap.size + 1) (some ⟨w2.heap.size, 0, none⟩) 1 1 [.string (s.extract 1 s.size)] rfl ?c1 ?c2 ?c3 ?c4 ?c5 ?_)
          case c1 => exact reads_newV w2 _ _ _ rfl rfl rfl (Nat.lt_succ_self _)
          case c2 => simp [Value.oneCell']
          case c3 => unfold maxLen; omega
          case c4 => omega
          case c5 => simp; omega
          intro v4 w4 hown4 hgrow4 hlink4
          have HAP2 : Hid (∀ q, v4.ownBlock = some q → q ∉ T') := by
            intro q hq
            rcases hlink4 with e | e
            · exact HAP.out q (by rw [HMM.out, ← e]; exact hq)
            · rw [hq] at e
              injection e with e
              intro hm
              have := HL2.out.there q hm
              have hq2 := size_alloc_one w2 (Obj.cells #[.string (s.extract 1 s.size)] 9)
              omega
          have HL4 : Hid (LogAt g c T' nm (lgOf G br) w4) := by
            refine (HL2.out.alloc (.cells #[.string (s.extract 1 s.size)] 9)).keep fun q hq => hgrow4.block q ((HL2.out.alloc _).there q hq) (fun e => ?_)
            exact HAP.out q (by rw [HMM.out]; exact e.symm) hq
          have HM4 : Hid (Mv T T' w1 w4) := by
            have h1 := (HM2.out.alloc (.cells #[.string (s.extract 1 s.size)] 9))
            refine ⟨hgrow4.os.trans h1.os, hgrow4.tape.trans h1.tape, hgrow4.output.trans h1.output, Nat.le_trans h1.size hgrow4.size, fun q hq hn => (hgrow4.block q (Nat.lt_of_lt_of_le hq h1.size) (fun e => ?_)).trans (h1.block q hq hn), h1.link⟩
            have := (hop2.lt q e.symm).1
            omega
          have HO4 : Hid (w4.ownsRow w1.heap.size 9 1 v4 (o ++ [r]).length (strs (Sm.texts (o ++ [r])))) := by
            show World.ownsRow _ _ _ _ _ _ _
            rw [texts_append, strs_append, texts_one HREST.out, List.length_append, HMM.out]
            exact hown4
          have HAK2 := HAK
          clear hgrow4 hlink4 hown4 hop2 HL2 HM2
          go_wp2
          go_roundw
          case rel => exact ⟨k + 1, a + (s.size + 8), o ++ [r], G, T', hlt, by go_num, by go_num, HGO2.out, HAK2.out, HL4.out, HO4.out, HM4.out, HAP2.out, by show _ ≤ _; rw [List.length_append]; exact Nat.add_le_add HOL.out (Nat.le_refl 1), by show _ ≤ _; have := HGL.out; rw [List.length_append]; simp only [List.length_cons, List.length_nil]; omega, Nat.le_succ_of_le HGR.out⟩
          case measure => simp [intOf]; omega
        · have hg1 : ¬ x = 114 := fun e => h114 ((hxx 114).1 e)
          rw [if_neg hg1] at hgo
          have hb1 : ((xn : Int) == 114) = false := beq_false_of_ne (by omega)
          by_cases h99 : xn = 99
          · have hg2 : x = 99 := (hxx 99).2 h99
            rw [if_pos hg2] at hgo
            have hb2' : ((xn : Int) == 99) = true := by rw [h99]; rfl
            have hcount := fun W => count_any s h1s (by omega) W
            obtain ⟨cv, hcv⟩ : ∃ cv, cntV s = cv := ⟨_, rfl⟩
            obtain ⟨cb, hcb⟩ : ∃ cb, cntB s = cb := ⟨_, rfl⟩
            rw [hcv, hcb] at hcnt hcount
            have HC := Lib.hid hcount
            clear hg1 hg2 h114 h99 hxx hcv hcb hcount
            cases cb
            · have HR : Hid (G = R) := by
                show _ = _
                rw [hcnt] at hgo
                simpa using hgo
              clear hgo hcnt
              go_wp2_with fail
              refine (frame1_any s _ _ _ rfl (by omega)).mono ?_
              rintro e w2 ⟨fr, rfl, hfr, hb2⟩
              have HL2 := Lib.hid (HLG.out.below hb2)
              have HM2 := Lib.hid (HM.out.then_below hb2)
              have hop2 := Wi.ownsRow_keep HOP.out (fun q hq => hb2.block q (HOP.out.lt q hq).2)
              have hsz2 := hb2.size
              rw [HMM.out] at hop2
              clear hb2
              go_wp2_with fail
              refine (HC.out w2).mono ?_
              rintro e w3 ⟨rfl, hb3⟩
              have HL3 := Lib.hid (HL2.out.below hb3)
              have HM3 := Lib.hid (HM2.out.then_below hb3)
              have hop3 := Wi.ownsRow_keep hop2 (fun q hq => hb3.block q (hop2.lt q hq).2)
              have hsz3 := hb3.size
              clear hb3 hop2 HL2 HM2
              go_wp2
              refine bodyPost_ret (results_none rfl _ _ _) rfl ?_
              exact ⟨rfl, T', by rw [← HR.out]; exact HL3.out, (Mv.of_new HB1.out (fun _ h => .inl h)).trans HM3.out⟩
            · by_cases hcm : cv = (m : Int)
              · have HGO2 : Hid (Wal.good (fs.drop (k + 1)) [] (a + (s.size + 8)) ⟨G.recs ++ o, G.groups + 1, a + (s.size + 8)⟩ = R) := by
                  show _ = _
                  rw [hcnt, HMM.out] at hgo
                  simpa [hcm] using hgo
                have hb3' : (cv != (m : Int)) = false := by rw [hcm]; simp
                clear hgo hcnt hcm
                go_wp2_with fail
                refine (frame1_any s _ _ _ rfl (by omega)).mono ?_
                rintro e w2 ⟨fr, rfl, hfr, hb2⟩
                have HL2 := Lib.hid (HLG.out.below hb2)
                have HM2 := Lib.hid (HM.out.then_below hb2)
                have hop2 := Wi.ownsRow_keep HOP.out (fun q hq => hb2.block q (HOP.out.lt q hq).2)
                have hsz2 := hb2.size
                rw [HMM.out] at hop2
                clear hb2
                go_wp2_with fail
                refine (HC.out w2).mono ?_
                rintro e w3 ⟨rfl, hb3⟩
                have HL3 := Lib.hid (HL2.out.below hb3)
                have HM3 := Lib.hid (HM2.out.then_below hb3)
                have hop3 := Wi.ownsRow_keep hop2 (fun q hq => hb3.block q (hop2.lt q hq).2)
                have hsz3 := hb3.size
                clear hb3 hop2 HL2 HM2
                go_wp2
                have hsz4 := HL3.out.lt
                obtain ⟨v, hTv, hbk, hown, hne⟩ := HL3.out
                obtain ⟨A3, c3, rfl, hc3⟩ := own_form hown
                obtain ⟨p, hp⟩ : ∃ p, (lgOf G br).recs.length = p := ⟨_, rfl⟩
                have hpk : p + m ≤ k := by
                  have h1 := HGL.out
                  rw [HMM.out] at h1
                  have h2 : (lgOf G br).recs.length = G.recs.length := texts_len _
                  omega
                have hgk : G.groups ≤ k := HGR.out
                have hgr : (lgOf G br).groups = G.groups := rfl
                rw [hp, hgr] at hbk
                rw [hp] at hown hne hTv
                have HP := Lib.hid hp
                have HBK := Lib.hid hbk
                have HNE := Lib.hid hne
                have HTV := Lib.hid hTv
                have d2 : w3.cell? ⟨g, 2, none⟩ = some (.slice A3 p c3) := by rw [Lib.cell_of_heap hbk]; rfl
                have d3 : w3.cell? ⟨g, 3, none⟩ = some (.int .i64 G.groups) := by rw [Lib.cell_of_heap hbk]; rfl
                have hrd := Reads.of_own hop3
                have hown' : w3.drew.ownsRow 0 9 1 (.slice A3 p c3) p (strs (lgOf G br).recs) := hown
                clear hp hgr hbk hne hTv hown HC
                go_region_law ((refine step_append_any _ rfl (.tmp 61) (.tmp 62) 22 rfl 0 9 i0 (.string ⟨#[]⟩) 1 16 Tryz.underlying22 hinf hz0 hz1 hz2 rfl (by decide) (.slice A3 p c3) p (strs (lgOf G br).recs) (by rfl) hown' w3.heap.size A2 m c2 (strs (Sm.texts o)) (by rfl) hrd (by simp [strs, Value.oneCell']) (by unfold maxLen; omega) (by omega) (Nat.zero_le _) ?_; intro v4 w4 hown4 hgrow4 hlink4; have hbk4 : w4.heap[g]? = some (.cells #[.pointer (some ⟨c, 0, none⟩), .string nm, .slice A3 p c3, .int .i64 G.groups, .int .i64 (lgOf G br).size, .bool (lgOf G br).broken] 27 (0, 0)) := (hgrow4.block g (show g < w3.heap.size from hsz4) (fun e => HNE.out e.symm)).trans HBK.out; have e2 : w4.cell? ⟨g, 2, none⟩ = some (.slice A3 p c3) := (by rw [Lib.cell_of_heap hbk4]; rfl); have e3 : w4.cell? ⟨g, 3, none⟩ = some (.int .i64 G.groups) := (by rw [Lib.cell_of_heap hbk4]; rfl); have e4 : w4.cell? ⟨g, 4, none⟩ = some (.int .i64 (lgOf G br).size) := (by rw [Lib.cell_of_heap hbk4]; rfl); have f2 : w4.frozen? ⟨g, 2, none⟩ = false := Lib.frozen_of_heap hbk4 2; have f3 : w4.frozen? ⟨g, 3, none⟩ = false := Lib.frozen_of_heap hbk4 3; have f4 : w4.frozen? ⟨g, 4, none⟩ = false := Lib.frozen_of_heap hbk4 4; obtain ⟨A4, c4, rfl, hc4⟩ := own_form hown4))
                all_goals
                  have hne4 : (Value.slice A4 (p + m) c4).ownBlock ≠ some g := by
                    rcases hlink4 with e | e
                    · rw [e]; exact HNE.out
                    · rw [e]; intro e'; injection e' with e'; have e5 : w3.drew.heap.size = w3.heap.size := rfl; omega
                  have HL4 := Lib.hid (LogAt.put (rs := Sm.texts (G.recs ++ o)) (n := p + m) (by rw [texts_append, List.length_append, texts_len o, HMM.out, ← HP.out]; rfl) hbk4 (by rw [texts_append, strs_append]; exact hown4) hne4 (x := G.groups + 1) (y := a + (s.size + 8)) (xi := (G.groups : Int) + 1) (yi := (a : Int) + ((s.size : Int) + 8)) (by omega) (by omega))
                  have HM4 : Hid (Mv T (g :: (Value.slice A4 (p + m) c4).ownBlock.toList) w1 w4) := by
                    refine Mv.grown (HM3.out.drewN 1) hgrow4 (fun q e => by rw [HTV.out]; simp [e]) (fun q hq => ?_)
                    rw [HTV.out]
                    simp only [List.mem_cons, Option.mem_toList] at hq ⊢
                    rcases hq with rfl | hq
                    · exact .inl (.inl rfl)
                    · rcases hlink4 with e | e
                      · rw [e] at hq; exact .inl (.inr hq)
                      · rw [e] at hq; injection hq with hq; right; have e5 : w3.drew.heap.size = w3.heap.size := rfl; have e6 : (w3.drewN 1).heap.size = w3.heap.size := rfl; omega
                  clear hgrow4 hlink4 hown4 hbk4 e2 e3 e4 f2 f3 f4 d2 d3 hrd hown' hop3 HL3 HM3 HBK hne4
                  go_wp2
                  go_roundw
                  case rel => exact ⟨k + 1, a + (s.size + 8), [], ⟨G.recs ++ o, G.groups + 1, a + (s.size + 8)⟩, _, hlt, by go_num, by go_num, HGO2.out, HAK.out, HL4.out, World.ownsRow_nil _ _ _ _, ((HM4.out.set_ (by simp) 2 _).set_ (by simp) 3 _).set_ (by simp) 4 _, fun q hq => by simp [Value.ownBlock] at hq, by show _ ≤ _; simp, by show _ ≤ _; have := HGL.out; simp only [List.length_append, List.length_nil]; omega, Nat.succ_le_succ HGR.out⟩
                  case measure => simp [intOf]; omega
              · have HR : Hid (G = R) := by
                  show _ = _
                  rw [hcnt, HMM.out] at hgo
                  simpa [hcm] using hgo
                have hb3' : (cv != (m : Int)) = true := by simpa using hcm
                clear hgo hcnt hcm
                go_wp2_with fail
                refine (frame1_any s _ _ _ rfl (by omega)).mono ?_
                rintro e w2 ⟨fr, rfl, hfr, hb2⟩
                have HL2 := Lib.hid (HLG.out.below hb2)
                have HM2 := Lib.hid (HM.out.then_below hb2)
                have hop2 := Wi.ownsRow_keep HOP.out (fun q hq => hb2.block q (HOP.out.lt q hq).2)
                have hsz2 := hb2.size
                rw [HMM.out] at hop2
                clear hb2
                go_wp2_with fail
                refine (HC.out w2).mono ?_
                rintro e w3 ⟨rfl, hb3⟩
                have HL3 := Lib.hid (HL2.out.below hb3)
                have HM3 := Lib.hid (HM2.out.then_below hb3)
                have hop3 := Wi.ownsRow_keep hop2 (fun q hq => hb3.block q (hop2.lt q hq).2)
                have hsz3 := hb3.size
                clear hb3 hop2 HL2 HM2
                go_wp2
                refine bodyPost_ret (results_none rfl _ _ _) rfl ?_
                exact ⟨rfl, T', by rw [← HR.out]; exact HL3.out, (Mv.of_new HB1.out (fun _ h => .inl h)).trans HM3.out⟩
          · have hg2 : ¬ x = 99 := fun e => h99 ((hxx 99).1 e)
            rw [if_neg hg2] at hgo
            have HR := Lib.hid hgo
            have hb2' : ((xn : Int) == 99) = false := beq_false_of_ne (by omega)
            clear hgo hcnt hg1 hg2 h114 h99 hxx
            go_wp2_with fail
            refine (frame1_any s _ _ _ rfl (by omega)).mono ?_
            rintro e w2 ⟨fr, rfl, hfr, hb2⟩
            have HL2 := Lib.hid (HLG.out.below hb2)
            have HM2 := Lib.hid (HM.out.then_below hb2)
            have hop2 := Wi.ownsRow_keep HOP.out (fun q hq => hb2.block q (HOP.out.lt q hq).2)
            have hsz2 := hb2.size
            rw [HMM.out] at hop2
            clear hb2
            go_wp2
            have HL3 := HL2
            have HM3 := HM2
            refine bodyPost_ret (results_none rfl _ _ _) rfl ?_
            exact ⟨rfl, T', by rw [← HR.out]; exact HL3.out, (Mv.of_new HB1.out (fun _ h => .inl h)).trans HM3.out⟩
    · have hkn : k = n := by omega
      have HR : Hid (G = R) := by
        have h1 := HGO.out
        rw [List.drop_eq_nil_of_le (by rw [HN.out]; omega), Wal.good_end] at h1
        exact h1
      clear hkn
      go_wp2
      go_end0
      exact ⟨rfl, T', by rw [← HR.out]; exact HLG.out, (Mv.of_new HB1.out (fun _ h => .inl h)).trans HM.out⟩
end Go.Proofs.YtfmbadinfhpihaaGreat
