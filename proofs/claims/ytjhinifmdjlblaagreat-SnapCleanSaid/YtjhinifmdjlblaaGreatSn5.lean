/-
  Texts of one chapter joined: XSn4, XSn4r, XSn5.
  Conditions: each lemma's own premises.
-/
import Derived.Test.YtjhinifmdjlblaaGreatSn3
import Derived.Deep.RegionHeld3
namespace Go.Proofs.YtjhinifmdjlblaaGreat
open Go.RowKit Go.Maps
set_option maxRecDepth 100000

/-- A store's block: its log, its disk, its name, its round, its picture's state, is it broken. -/
def StBlk (a : Nat) (l : Value) (c : Nat) (dir : ByteArray) (n : Nat) (base : ByteArray) (br : Bool) (w : World) : Prop :=
  w.heap[a]? = some (.cells #[l, .pointer (some ⟨c, 0, none⟩), .string dir, .int .i64 n, .string base, .bool br] 27 (0, 0))
section
variable {a c n : Nat} {l : Value} {dir base : ByteArray} {br : Bool} {w w' : World}
theorem StBlk.lt (h : StBlk a l c dir n base br w) : a < w.heap.size := Blk.lt h
theorem StBlk.keep (h : StBlk a l c dir n base br w) (hb : w'.heap[a]? = w.heap[a]?) : StBlk a l c dir n base br w' := hb.trans h
theorem StBlk.mv {S S' : List Nat} (h : StBlk a l c dir n base br w) (hm : Mv S S' w w') (ha : a ∉ S) : StBlk a l c dir n base br w' := h.keep (hm.block a h.lt ha)
theorem StBlk.below (h : StBlk a l c dir n base br w) (hb : Below w.heap.size w w') : StBlk a l c dir n base br w' := h.keep (hb.block a h.lt)
theorem StBlk.cell0 (h : StBlk a l c dir n base br w) : w.cell? ⟨a, 0, none⟩ = some l := by rw [Lib.cell_of_heap h]; rfl
theorem StBlk.cell1 (h : StBlk a l c dir n base br w) : w.cell? ⟨a, 1, none⟩ = some (.pointer (some ⟨c, 0, none⟩)) := by rw [Lib.cell_of_heap h]; rfl
theorem StBlk.cell2 (h : StBlk a l c dir n base br w) : w.cell? ⟨a, 2, none⟩ = some (.string dir) := by rw [Lib.cell_of_heap h]; rfl
theorem StBlk.cell3 (h : StBlk a l c dir n base br w) : w.cell? ⟨a, 3, none⟩ = some (.int .i64 n) := by rw [Lib.cell_of_heap h]; rfl
theorem StBlk.cell4 (h : StBlk a l c dir n base br w) : w.cell? ⟨a, 4, none⟩ = some (.string base) := by rw [Lib.cell_of_heap h]; rfl
theorem StBlk.cell5 (h : StBlk a l c dir n base br w) : w.cell? ⟨a, 5, none⟩ = some (.bool br) := by rw [Lib.cell_of_heap h]; rfl
theorem StBlk.frozen (h : StBlk a l c dir n base br w) (i : Nat) : w.frozen? ⟨a, i, none⟩ = false := Lib.frozen_of_heap h i
theorem StBlk.set0 (h : StBlk a l c dir n base br w) (v : Value) : StBlk a v c dir n base br (w.setCell ⟨a, 0, none⟩ v) := Blk.set_ (show Blk w a 27 _ from h) 0 _
theorem StBlk.set3 (h : StBlk a l c dir n base br w) (k : Nat) : StBlk a l c dir k base br (w.setCell ⟨a, 3, none⟩ (.int .i64 k)) := Blk.set_ (show Blk w a 27 _ from h) 3 _
theorem StBlk.set4 (h : StBlk a l c dir n base br w) (s : ByteArray) : StBlk a l c dir n s br (w.setCell ⟨a, 4, none⟩ (.string s)) := Blk.set_ (show Blk w a 27 _ from h) 4 _
theorem StBlk.set5 (h : StBlk a l c dir n base br w) (x : Bool) : StBlk a l c dir n base x (w.setCell ⟨a, 5, none⟩ (.bool x)) := Blk.set_ (show Blk w a 27 _ from h) 5 _
end
theorem dirS_size (dir : ByteArray) : (dirS dir).size = dir.size + 2 := by unfold dirS; rw [size_app']; rfl
theorem dirL_size (dir : ByteArray) : (dirL dir).size = dir.size + 2 := by unfold dirL; rw [size_app']; rfl
set_option maxHeartbeats 1000000 in
theorem picture_any (a k : Nat) (dir : ByteArray) (hd : dir.size ≤ 1000000) (hk : k ≤ 9223372036854775807) (w : World) (h2 : w.cell? ⟨a, 2, none⟩ = some (.string dir)) (ha : a < w.heap.size) :
    Calls Tryz.prog 26 #[.pointer (some ⟨a, 0, none⟩), .int .i64 k] w fun e w' => e = .returned (.string (picB dir k)) ∧ Below w.heap.size w w' := by
  have hz := dirS_size dir
  have hz2 := digB_size' k hk
  have hs3 : ¬ 9223372036854775807 < dir.size + 2 := by omega
  have hs4 : ¬ 9223372036854775807 < dir.size + 2 + (digB k).size := by omega
  clear hz
  go_enter Tryz.func26, Tryz.ntmps26
  go_wp2
  go_region_held3 (fun W => W.cell? ⟨a, 2, none⟩ = some (.string dir))
    (first | exact h2 | exact (hb1.cell (show (⟨a, 2, none⟩ : Addr).block < _ from ha)).trans h2)
    (first | (go_at_call 43; refine (digits_any k hk _).mono ?_; rintro e w1 ⟨rfl, hb1⟩))
  all_goals
    go_wp2
    go_ret
    exact ⟨rfl, (Below.refl _ _).drew.trans hb1⟩
set_option maxHeartbeats 1000000 in
theorem slog_any (a k : Nat) (dir : ByteArray) (hd : dir.size ≤ 1000000) (hk : k ≤ 9223372036854775807) (w : World) (h2 : w.cell? ⟨a, 2, none⟩ = some (.string dir)) (ha : a < w.heap.size) :
    Calls Tryz.prog 29 #[.pointer (some ⟨a, 0, none⟩), .int .i64 k] w fun e w' => e = .returned (.string (lgB dir k)) ∧ Below w.heap.size w w' := by
  have hz := dirL_size dir
  have hz2 := digB_size' k hk
  have hs3 : ¬ 9223372036854775807 < dir.size + 2 := by omega
  have hs4 : ¬ 9223372036854775807 < dir.size + 2 + (digB k).size := by omega
  clear hz
  go_enter Tryz.func29, Tryz.ntmps29
  go_wp2
  go_region_held3 (fun W => W.cell? ⟨a, 2, none⟩ = some (.string dir))
    (first | exact h2 | exact (hb1.cell (show (⟨a, 2, none⟩ : Addr).block < _ from ha)).trans h2)
    (first | (go_at_call 43; refine (digits_any k hk _).mono ?_; rintro e w1 ⟨rfl, hb1⟩))
  all_goals
    go_wp2
    go_ret
    exact ⟨rfl, (Below.refl _ _).drew.trans hb1⟩
theorem work_any (a : Nat) (dir : ByteArray) (hd : dir.size ≤ 1000000) (w : World) (h2 : w.cell? ⟨a, 2, none⟩ = some (.string dir)) :
    Calls Tryz.prog 54 #[.pointer (some ⟨a, 0, none⟩)] w fun e w' => e = .returned (.string (workB dir)) ∧ w = w' := by
  have hs3 : ¬ 9223372036854775807 < dir.size + 2 := by omega
  go_enter Tryz.func54, Tryz.ntmps54
  go_wp2
  go_ret
  exact ⟨rfl, rfl⟩
theorem numB_nonneg {f d : ByteArray} (h : (numB f d).2 = true) : 0 ≤ (numB f d).1 := by
  unfold numB Snp.numAt at h ⊢
  simp only [Bool.and_eq_true, decide_eq_true_eq] at h
  exact h.2
theorem findN_drop {L : List ByteArray} {k : Nat} {f dir : ByteArray} (h : L[k]? = some f) (n : Nat) : findN dir (L.drop k) n = findN dir (L.drop (k + 1)) (if (numB f (dirS dir)).2 = true ∧ (n : Int) < (numB f (dirS dir)).1 then (numB f (dirS dir)).1.toNat else n) := by
  rw [drop_cons h]
  rfl
set_option maxHeartbeats 2000000 in
theorem find_any (a c b : Nat) (l : Value) (dir base : ByteArray) (n0 : Nat) (br : Bool) (st : Dk) (hok : st.Ok) (hd : dir.size ≤ 1000000) (w : World) (h : StBlk a l c dir n0 base br w) (hk : DkAt c b st w) :
    Calls Tryz.prog 24 #[.pointer (some ⟨a, 0, none⟩)] w fun e w' => e = .returned (.tuple #[]) ∧ StBlk a l c dir (findN dir (lstS st.fs) n0) base br w' ∧ Mv [a] [a] w w' := by
  have hlt := h.lt
  have c1 := h.cell1
  have q := files_own c b st hok w hk
  have hlen := lstS_len hok.good.keys
  have hfew := hok.few
  have hs3 : ¬ 9223372036854775807 < dir.size + 2 := by omega
  obtain ⟨L, hL⟩ : ∃ L, lstS st.fs = L := ⟨_, rfl⟩
  rw [hL] at q hlen ⊢
  obtain ⟨R, hR⟩ : ∃ R, findN dir L n0 = R := ⟨_, rfl⟩
  rw [hR]
  have HR := Lib.hid hR
  obtain ⟨m, hm⟩ : ∃ m, L.length = m := ⟨_, rfl⟩
  rw [hm] at q hlen
  have hm6 : m ≤ 1000000 := by omega
  have H := Lib.hid h
  clear hR hL h hk hok hlen hfew
  have hnum := fun f W => Lib.hid (snnum_any f (dirS dir) W)
  go_enter Tryz.func24, Tryz.ntmps24
  go_wp2_with fail
  refine q.mono ?_
  rintro e w1 ⟨v, rfl, hown, hb1⟩
  obtain ⟨A, cap, rfl, _⟩ := own_form hown
  have HRD := Lib.hid (Reads.of_own hown)
  have HNA : Hid (0 < m → ∀ ad, A = some ad → ad.block ≠ a) := fun hp ad e => by
    obtain ⟨g, cap', hv, hg, _⟩ := hown.form hp
    injection hv with e1 _ _
    rw [e] at e1
    injection e1 with e1
    rw [e1]
    show g ≠ a
    omega
  have H1 := Lib.hid (H.out.below hb1)
  have HM1 := Lib.hid (Mv.of_new (S := [a]) (S' := [a]) hb1 (fun _ h => .inl h))
  have hsz1 := hb1.size
  clear hown hb1 q c1
  go_wp2
  go_loopw [12] (fun i wr => ∃ (k n : Nat), k ≤ m ∧ i = .int .i64 k ∧ Hid (StBlk a l c dir n base br wr) ∧ Hid (findN dir (L.drop k) n = R) ∧ Hid (Mv [a] [a] w1 wr)) (fun i _ => m - (intOf i).toNat)
  case atStart => exact ⟨0, n0, Nat.zero_le _, rfl, H1.out, HR.out, Mv.refl _ _⟩
  case round =>
    obtain ⟨k, n, hk, rfl, HS, HF, HM⟩ := hrel
    by_cases hkm : k < m
    · obtain ⟨ad, f, rfl, hab, hfk, hcell⟩ := str_at (HRD.out.mv HM.out (Nat.le_refl _) (fun hp ad e => by simpa using HNA.out hp ad e)) hkm
      have hcz : (k : Int) < m := by omega
      have c2 := HS.out.cell2
      have c3 := HS.out.cell3
      have f3 := HS.out.frozen 3
      have hstep := findN_drop (dir := dir) hfk n
      have hnn := numB_nonneg (f := f) (d := dirS dir)
      have hq := hnum f
      obtain ⟨x, hx⟩ : ∃ x, numB f (dirS dir) = x := ⟨_, rfl⟩
      rw [hx] at hstep hnn hq
      obtain ⟨v, is⟩ := x
      have HST := Lib.hid hstep
      clear hstep hfk hx hab
      cases is
      · have HF2 : Hid (findN dir (L.drop (k + 1)) n = R) := by
          show _ = _
          rw [← HF.out, HST.out, if_neg (by simp)]
        clear HST HF hnn
        go_wp2_with fail
        refine (hq _).out.mono ?_
        rintro e w2 ⟨rfl, rfl⟩
        go_wp2
        go_roundw
        case rel => exact ⟨k + 1, n, hkm, by go_num, HS.out, HF2.out, HM.out⟩
        case measure => simp [intOf]; omega
      · have hv0 : 0 ≤ v := hnn rfl
        obtain ⟨z, rfl⟩ : ∃ z : Nat, v = (z : Int) := ⟨v.toNat, by omega⟩
        clear hnn
        by_cases hlt2 : n < z
        · have HF2 : Hid (findN dir (L.drop (k + 1)) z = R) := by
            show _ = _
            rw [← HF.out, HST.out, if_pos ⟨rfl, by show (n : Int) < (z : Int); omega⟩]
            rfl
          have hgt : (n : Int) < (z : Int) := by omega
          have HS2 := Lib.hid (HS.out.set3 z)
          have HM2 := Lib.hid (HM.out.set_ (g := a) (by simp) 3 (.int .i64 z))
          obtain ⟨W2, hW2⟩ : ∃ W2, wr.setCell ⟨a, 3, none⟩ (.int .i64 z) = W2 := ⟨_, rfl⟩
          rw [hW2] at HS2 HM2
          clear HST HF HS HM
          go_wp2_with fail
          refine (hq _).out.mono ?_
          rintro e w2 ⟨rfl, rfl⟩
          go_wp2
          go_roundw
          case rel => exact ⟨k + 1, z, hkm, by go_num, HS2.out, HF2.out, HM2.out⟩
          case measure => simp [intOf]; omega
        · have HF2 : Hid (findN dir (L.drop (k + 1)) n = R) := by
            show _ = _
            rw [← HF.out, HST.out, if_neg (by intro h; have := h.2; simp only at this; omega)]
          have hgt : ¬ (n : Int) < (z : Int) := by omega
          clear HST HF
          go_wp2_with fail
          refine (hq _).out.mono ?_
          rintro e w2 ⟨rfl, rfl⟩
          go_wp2
          go_roundw
          case rel => exact ⟨k + 1, n, hkm, by go_num, HS.out, HF2.out, HM.out⟩
          case measure => simp [intOf]; omega
    · obtain rfl : k = m := by omega
      have hfin := HF.out
      rw [List.drop_eq_nil_of_le (by rw [hm]; exact Nat.le_refl _)] at hfin
      have HS2 : Hid (StBlk a l c dir R base br wr) := by show StBlk _ _ _ _ _ _ _ _; rw [← hfin]; exact HS.out
      have HM2 := Lib.hid (HM1.out.trans HM.out)
      clear hfin HF HS
      go_wp2
      go_end0
      exact ⟨rfl, HS2.out, HM2.out⟩
end Go.Proofs.YtjhinifmdjlblaaGreat
namespace Go.Proofs.YtjhinifmdjlblaaGreat
open Go.RowKit
set_option maxRecDepth 100000

theorem flat_le {b : ByteArray} : ((Sum.scan b.data.toList).1.dropLast.flatten).length ≤ b.size := by
  have h1 := Sum.scan_framed b.data.toList
  have h2 := congrArg List.length h1
  have h3 := Sum.scan_le b.data.toList
  rw [Sum.frames_length, Snp.total_flat, List.length_take, len_data] at h2
  rw [len_data] at h3
  have h4 : ((Sum.scan b.data.toList).1.dropLast.flatten).length ≤ ((Sum.scan b.data.toList).1.flatten).length := by
    generalize (Sum.scan b.data.toList).1 = l
    induction l with
    | nil => simp
    | cons a l ih =>
      cases l with
      | nil => simp
      | cons c l => rw [List.dropLast_cons_cons, List.flatten_cons, List.flatten_cons, List.length_append, List.length_append]; omega
  omega
theorem join_none (ls : List (List UInt8)) : Lib.join ls [] = ls.flatten := by
  induction ls with
  | nil => rfl
  | cons a l ih =>
    cases l with
    | nil => simp [Lib.join, List.intercalate]
    | cons b l =>
      simp only [Lib.join, List.intercalate] at ih ⊢
      rw [List.intersperse_cons_cons, List.flatten_cons, List.flatten_cons, ih]
      simp
theorem texts_back (ls : List (List UInt8)) : (Sm.texts ls).map (·.data.toList) = ls := by
  induction ls with
  | nil => rfl
  | cons a l ih =>
    simp only [Sm.texts, List.map_cons] at ih ⊢
    rw [ih]
theorem cmp_layB (s b : ByteArray) : ((layBA s).toList == b.toList) = decide (layBA s = b) := by
  rw [Bool.eq_iff_iff, bytes_eq_iff, decide_eq_true_eq]
set_option maxHeartbeats 2000000 in
theorem read_any_ (b : ByteArray) (hb : b.size ≤ 100000000) (w : World) :
    Calls Tryz.prog 27 #[.string b] w fun e w' => e = .returned (.tuple #[.string (readBA b).1, .bool (readBA b).2]) ∧ Below w.heap.size w w' := by
  have hsc := fun W => Lib.hid (Sm.scan_any b W (by omega))
  have hfl := flat_le (b := b)
  have hjo := fun (bk o cp : Nat) (xs : List ByteArray) => Tryz.strings_Join bk o cp xs ⟨#[]⟩
  obtain ⟨ls, hls⟩ : ∃ ls, (Sum.scan b.data.toList).1 = ls := ⟨_, rfl⟩
  have hrd : readBA b = if ls.isEmpty = true then ((⟨#[]⟩ : ByteArray), false) else ((⟨ls.dropLast.flatten.toArray⟩ : ByteArray), decide (layBA ⟨ls.dropLast.flatten.toArray⟩ = b)) := by
    unfold readBA Snp.readP
    rw [hls]
    split
    · rfl
    · simp only
      have e : (⟨ls.dropLast.flatten.toArray⟩ : ByteArray).data.toList = ls.dropLast.flatten := by simp
      rw [Prod.mk.injEq]
      refine ⟨rfl, ?_⟩
      rw [Bool.eq_iff_iff, decide_eq_true_eq, decide_eq_true_eq]
      unfold layBA
      rw [e]
      constructor
      · intro h
        exact of_data (by simp [h])
      · intro h
        rw [← h]
  have hsc8 := Sum.scan_framed b.data.toList
  have hle8 := Sum.scan_le b.data.toList
  have hcnt : 8 * ls.length ≤ b.size := by
    have h2 := congrArg List.length hsc8
    rw [Sum.frames_length, List.length_take, hls, len_data] at h2
    rw [len_data] at hle8
    omega
  rw [hls] at hsc hfl
  obtain ⟨at_, hat⟩ : ∃ x, (Sum.scan b.data.toList).2 = x := ⟨_, rfl⟩
  rw [hat] at hsc
  clear hsc8 hle8 hls hat
  by_cases h0 : ls.length = 0
  · obtain rfl : ls = [] := List.eq_nil_of_length_eq_zero h0
    rw [show readBA b = (⟨#[]⟩, false) from by rw [hrd]; rfl]
    clear hrd
    go_enter Tryz.func27, Tryz.ntmps27
    go_wp2_with fail
    refine (hsc w).out.mono ?_
    rintro e w1 ⟨A, cp, rfl, _, hb1⟩
    have HB := Lib.hid hb1
    clear hb1
    go_wp2
    go_ret2
    exact ⟨rfl, HB.out⟩
  · have hne : ls.isEmpty = false := by
      cases ls with
      | nil => exact absurd rfl h0
      | cons a l => rfl
    rw [hne, if_neg (by decide)] at hrd
    rw [hrd]
    clear hrd
    obtain ⟨s, hs⟩ : ∃ s : ByteArray, (⟨ls.dropLast.flatten.toArray⟩ : ByteArray) = s := ⟨_, rfl⟩
    rw [hs]
    have hss : s.size ≤ b.size := by rw [← hs, ← len_data]; simpa using hfl
    have hly := fun W => Lib.hid (lay_any s (by omega) W)
    obtain ⟨p, hp⟩ : ∃ p, ls.length = p + 1 := ⟨ls.length - 1, by omega⟩
    have HS := Lib.hid hs
    have HP := Lib.hid hp
    have hpz : ((p + 1 : Nat) : Int) - 1 = (p : Int) := by omega
    rw [hp] at hsc
    have hcmp := cmp_layB s b
    clear hs hne hfl h0 hp
    have hp8 : p ≤ 100000000 := by have := HP.out; omega
    go_enter Tryz.func27, Tryz.ntmps27
    go_wp2_with fail
    refine (hsc w).out.mono ?_
    rintro e w1 ⟨A, cp, rfl, hown, hb1⟩
    have HB := Lib.hid hb1
    obtain ⟨g, cp', hv, hg, hgl⟩ := hown.form (by omega)
    injection hv with hA hv1 hv2
    subst hA hv2
    have hcells := hown.cells (g := g) rfl
    have hcap : p + 1 ≤ cp := by
      obtain ⟨_, _, e, h⟩ := own_form hown
      injection e with _ _ e
      omega
    have hcz : (p : Int) ≤ cp := by omega
    have hxl : (Sm.texts ls.dropLast).length = p := by rw [texts_len, List.length_dropLast, HP.out]; rfl
    have q := hjo g 0 cp (Sm.texts ls.dropLast) w1 (fun j x hx => by
      rw [Nat.zero_add]
      have hj : j < p := by rw [← hxl]; exact (List.getElem?_eq_some_iff.1 hx).1
      have := hcells j (.string x) (by
        have e1 : ls = ls.dropLast ++ [ls.getLast (fun e => by have := HP.out; rw [e] at this; simp at this)] := (List.dropLast_concat_getLast _).symm
        rw [e1, texts_append, strs_append, List.getElem?_append_left (by rw [strs_len, hxl]; exact hj)]
        simp only [strs, List.getElem?_map, hx, Option.map_some])
      unfold Addr.add at this
      split at this
      · rename_i h1; subst h1; exact this
      · rw [Nat.zero_add] at this; exact this) hgl (by omega) (by omega) (by
        rw [show (Sm.texts ls.dropLast).map (·.data.toList) = ls.dropLast from texts_back _]
        rw [show Lib.join ls.dropLast (⟨#[]⟩ : ByteArray).data.toList = ls.dropLast.flatten from join_none _]
        have h9 := HS.out
        have h8 : s.size = ls.dropLast.flatten.length := by rw [← h9, ← len_data]
        omega)
    rw [show (Sm.texts ls.dropLast).map (·.data.toList) = ls.dropLast from texts_back _, show Lib.join ls.dropLast (⟨#[]⟩ : ByteArray).data.toList = ls.dropLast.flatten from join_none _, HS.out, hxl] at q
    clear hb1 hown hcells hxl hg
    go_wp2_with fail
    refine q.mono ?_
    rintro e w2 ⟨rfl, hb2⟩
    have HB2 := Lib.hid (HB.out.trans (hb2.mono HB.out.size))
    clear hb2 q hjo hsc hgl
    go_wp2_with fail
    refine (hly w2).out.mono ?_
    rintro e w3 ⟨rfl, hb3⟩
    have HB3 := Lib.hid (HB2.out.trans (hb3.mono HB2.out.size))
    clear hb3 hly
    go_wp2
    go_ret2
    exact ⟨rfl, HB3.out⟩
end Go.Proofs.YtjhinifmdjlblaaGreat
namespace Go.Proofs.YtjhinifmdjlblaaGreat
open Go.RowKit Go.Maps
set_option maxRecDepth 100000

theorem cutS_shelf (f : ByteArray) : ((⟨(Lib.trimSuffix f.data.toList [126]).toArray⟩ : ByteArray), Lib.hasSuffix f.data.toList [126]) = cutS f := by
  unfold cutS Lib.trimSuffix Lib.hasSuffix
  by_cases h : ([126] : List UInt8).isSuffixOf f.data.toList = true
  · rw [if_pos h, if_pos h, h]
    refine Prod.ext (of_data ?_) rfl
    rw [Sm.extract_data']
    simp
  · rw [if_neg h, if_neg h, Bool.eq_false_iff.2 h]
theorem cmp_bytes (s b : ByteArray) : (s.toList == b.toList) = decide (s = b) := by
  rw [Bool.eq_iff_iff, bytes_eq_iff, decide_eq_true_eq]
set_option maxHeartbeats 2000000 in
theorem old_any (a c : Nat) (l : Value) (dir base file : ByteArray) (n : Nat) (br : Bool) (hd : dir.size ≤ 1000000) (hf : file.size ≤ 9223372036854775807) (w : World) (h : StBlk a l c dir n base br w) :
    Calls Tryz.prog 50 #[.pointer (some ⟨a, 0, none⟩), .string file] w fun e w' => e = .returned (.bool (oldB dir n file)) ∧ w = w' := by
  have c2 := h.cell2
  have c3 := h.cell3
  have hs3 : ¬ 9223372036854775807 < dir.size + 2 := by omega
  have hnum := fun f d W => Lib.hid (snnum_any f d W)
  have hcs := fun W => Tryz.strings_CutSuffix file ⟨#[126]⟩ W hf
  have hwk := fun W h => Lib.hid (work_any a dir hd W h)
  have e126 : (⟨#[126]⟩ : ByteArray).data.toList = [126] := rfl
  rw [e126] at hcs
  have hcs2 := cutS_shelf file
  have q1 := fun W => hnum file (dirS dir) W
  unfold oldB
  obtain ⟨x, hx⟩ : ∃ x, numB file (dirS dir) = x := ⟨_, rfl⟩
  rw [hx] at q1 ⊢
  obtain ⟨v, is⟩ := x
  clear hx
  simp only at q1 ⊢
  cases is
  · rw [if_neg (by decide)]
    obtain ⟨y, hy⟩ : ∃ y, cutS file = y := ⟨_, rfl⟩
    rw [hy] at hcs2 ⊢
    obtain ⟨nm, md⟩ := y
    simp only [Prod.mk.injEq] at hcs2
    rw [hcs2.1, hcs2.2] at hcs
    have HCS := Lib.hid hcs
    have q2 := fun W => hnum nm (dirL dir) W
    clear hcs2 hy hcs e126 hnum
    simp only
    obtain ⟨z, hz⟩ : ∃ z, numB nm (dirL dir) = z := ⟨_, rfl⟩
    rw [hz] at q2 ⊢
    obtain ⟨u, it⟩ := z
    clear hz
    simp only at q2 ⊢
    cases it
    · rw [if_neg (by decide)]
      have hcmp := cmp_bytes file (workB dir)
      go_enter Tryz.func50, Tryz.ntmps50
      go_wp2_with fail
      refine (q1 _).out.mono ?_
      rintro e w1 ⟨rfl, rfl⟩
      go_wp2_with fail
      refine (HCS.out _).mono ?_
      rintro e w1 ⟨rfl, rfl⟩
      go_wp2_with fail
      refine (q2 _).out.mono ?_
      rintro e w1 ⟨rfl, rfl⟩
      go_wp2_with fail
      refine (hwk _ c2).out.mono ?_
      rintro e w1 ⟨rfl, rfl⟩
      go_wp2
      go_ret
      exact ⟨rfl, rfl⟩
    · rw [if_pos rfl]
      cases md
      · rw [Bool.false_or]
        obtain ⟨t, ht⟩ : ∃ t, decide (u ≠ (n : Int)) = t := ⟨_, rfl⟩
        have hbn : (u != (n : Int)) = t := by rw [← ht]; by_cases e : u = n <;> simp [e]
        rw [ht]
        clear ht
        go_enter Tryz.func50, Tryz.ntmps50
        go_wp2_with fail
        refine (q1 _).out.mono ?_
        rintro e w1 ⟨rfl, rfl⟩
        go_wp2_with fail
        refine (HCS.out _).mono ?_
        rintro e w1 ⟨rfl, rfl⟩
        go_wp2_with fail
        refine (q2 _).out.mono ?_
        rintro e w1 ⟨rfl, rfl⟩
        go_wp2
        go_ret
        exact ⟨rfl, rfl⟩
      · rw [Bool.true_or]
        go_enter Tryz.func50, Tryz.ntmps50
        go_wp2_with fail
        refine (q1 _).out.mono ?_
        rintro e w1 ⟨rfl, rfl⟩
        go_wp2_with fail
        refine (HCS.out _).mono ?_
        rintro e w1 ⟨rfl, rfl⟩
        go_wp2_with fail
        refine (q2 _).out.mono ?_
        rintro e w1 ⟨rfl, rfl⟩
        go_wp2
        go_ret
        exact ⟨rfl, rfl⟩
  · rw [if_pos rfl]
    clear hcs hcs2 hnum e126
    by_cases e1 : v = (n : Int)
    · have hb1 : (v != (n : Int)) = false := by simp [e1]
      rw [decide_eq_false (by omega), Bool.false_or]
      obtain ⟨t, ht⟩ : ∃ t, decide (v = 0) = t := ⟨_, rfl⟩
      have hb0 : (v == 0) = t := by rw [← ht]; by_cases e : v = 0 <;> simp [e]
      rw [ht]
      clear ht e1
      go_enter Tryz.func50, Tryz.ntmps50
      go_wp2_with fail
      refine (q1 _).out.mono ?_
      rintro e w1 ⟨rfl, rfl⟩
      go_wp2
      go_ret
      exact ⟨rfl, rfl⟩
    · have hb1 : (v != (n : Int)) = true := by simp [e1]
      rw [decide_eq_true e1, Bool.true_or]
      clear e1
      go_enter Tryz.func50, Tryz.ntmps50
      go_wp2_with fail
      refine (q1 _).out.mono ?_
      rintro e w1 ⟨rfl, rfl⟩
      go_wp2
      go_ret
      exact ⟨rfl, rfl⟩
theorem cleanD_drop {dir : ByteArray} {n : Nat} {L : List ByteArray} {k : Nat} {f : ByteArray} (h : L[k]? = some f) (st : Dk) : cleanD dir n (L.drop k) st = if oldB dir n f = true then (if (removeD st f).1 = 0 then cleanD dir n (L.drop (k + 1)) (removeD st f).2 else removeD st f) else cleanD dir n (L.drop (k + 1)) st := by
  rw [drop_cons h]
  rfl
set_option maxHeartbeats 2000000 in
theorem clean_any (a c b : Nat) (l : Value) (dir base : ByteArray) (n : Nat) (br : Bool) (st : Dk) (hok : st.Ok) (hd : dir.size ≤ 1000000) (w : World) (h : StBlk a l c dir n base br w) (hk : DkAt c b st w) (hac : a ≠ c) (hab : a ≠ b) :
    Calls Tryz.prog 30 #[.pointer (some ⟨a, 0, none⟩)] w fun e w' => e = .returned (.int .i64 (cleanD dir n (lstS st.fs) st).1) ∧ DkAt c b (cleanD dir n (lstS st.fs) st).2 w' ∧ Mv [c, b] [c, b] w w' := by
  have hlt := h.lt
  have c1 := h.cell1
  have q := files_own c b st hok w hk
  have hlen := lstS_len hok.good.keys
  have hfew := hok.few
  have hsz : ∀ f ∈ lstS st.fs, f.size ≤ 9223372036854775807 := fun f hf => own_key hk.2.1 ((mem_lstS hok.good.keys f).1 hf)
  obtain ⟨L, hL⟩ : ∃ L, lstS st.fs = L := ⟨_, rfl⟩
  rw [hL] at q hlen hsz ⊢
  obtain ⟨R, hR⟩ : ∃ R, cleanD dir n L st = R := ⟨_, rfl⟩
  rw [hR]
  have HR := Lib.hid hR
  have HSZ := Lib.hid hsz
  obtain ⟨m, hm⟩ : ∃ m, L.length = m := ⟨_, rfl⟩
  rw [hm] at q hlen
  have hm6 : m ≤ 1000000 := by omega
  have H := Lib.hid h
  have HK := Lib.hid hk
  have HOK := Lib.hid hok
  have hlc := hk.lt
  have hlb := hk.ltb
  clear hR hL h hk hok hlen hfew hsz
  have hold := fun f hf W h => Lib.hid (old_any a c l dir base f n br hd hf W h)
  have hrem := fun s ok f hf W h => Lib.hid (remove_any c b s ok f hf W h)
  go_enter Tryz.func30, Tryz.ntmps30
  go_wp2_with fail
  refine q.mono ?_
  rintro e w1 ⟨v, rfl, hown, hb1⟩
  obtain ⟨A, cap, rfl, _⟩ := own_form hown
  have HRD := Lib.hid (Reads.of_own hown)
  have HNA : Hid (0 < m → ∀ ad, A = some ad → ad.block ∉ [c, b]) := fun hp ad e => by
    obtain ⟨g, cap', hv, hg, _⟩ := hown.form hp
    injection hv with e1 _ _
    rw [e] at e1
    injection e1 with e1
    rw [e1]
    simp
    omega
  have H1 := Lib.hid (H.out.below hb1)
  have HK1 := Lib.hid (HK.out.below hb1 hlc hlb)
  have HM1 := Lib.hid ((Mv.refl [c, b] w).then_below hb1)
  clear hown hb1 q c1
  go_wp2
  go_loopw [12] (fun i wr => ∃ (k : Nat), k ≤ m ∧ i = .int .i64 k ∧ Hid (∃ st' : Dk, st'.Ok ∧ DkAt c b st' wr ∧ cleanD dir n (L.drop k) st' = R) ∧ Hid (Mv [c, b] [c, b] w1 wr)) (fun i _ => m - (intOf i).toNat)
  case atStart => exact ⟨0, Nat.zero_le _, rfl, ⟨st, HOK.out, HK1.out, HR.out⟩, Mv.refl _ _⟩
  case round =>
    obtain ⟨k, hk, rfl, HS, HM⟩ := hrel
    obtain ⟨st', hok', hdk, hres⟩ := HS.out
    have HDK := Lib.hid hdk
    have HOK' := Lib.hid hok'
    have HRES := Lib.hid hres
    clear hdk hok' hres HS
    by_cases hkm : k < m
    · obtain ⟨ad, f, rfl, hab2, hfk, hcell⟩ := str_at (HRD.out.mv HM.out (Nat.le_refl _) HNA.out) hkm
      have hcz : (k : Int) < m := by omega
      have hf9 := HSZ.out f (List.mem_of_getElem? hfk)
      have HBK := Lib.hid (H1.out.mv HM.out (by simp; exact ⟨hac, hab⟩))
      have c1 := HBK.out.cell1
      have hstep := cleanD_drop (dir := dir) (n := n) hfk st'
      have hres := HRES.out
      rw [hstep] at hres
      have q1 := hold f hf9 wr HBK.out
      have q2 := hrem st' HOK'.out f hf9 wr HDK.out
      have hok2 := remove_ok HOK'.out f
      clear hstep hfk hab2
      obtain ⟨o, ho⟩ : ∃ o, oldB dir n f = o := ⟨_, rfl⟩
      rw [ho] at hres q1
      obtain ⟨r, hr⟩ : ∃ r, removeD st' f = r := ⟨_, rfl⟩
      rw [hr] at hres q2 hok2
      have HRES2 := Lib.hid hres
      have HOK2 := Lib.hid hok2
      clear hr ho hres hok2 HRES
      cases o
      · have HS2 : Hid (∃ st' : Dk, st'.Ok ∧ DkAt c b st' wr ∧ cleanD dir n (L.drop (k + 1)) st' = R) := ⟨st', HOK'.out, HDK.out, by have := HRES2.out; rwa [if_neg (by decide)] at this⟩
        clear q2 HRES2 HOK2
        go_wp2_with fail
        refine q1.out.mono ?_
        rintro e w2 ⟨rfl, rfl⟩
        go_wp2
        go_roundw
        case rel => exact ⟨k + 1, hkm, by go_num, HS2.out, HM.out⟩
        case measure => simp [intOf]; omega
      · obtain ⟨r1, r2⟩ := r
        have hres := HRES2.out
        rw [if_pos rfl] at hres
        by_cases h0 : r1 = 0
        · rw [if_pos h0] at hres
          have hb0 : (r1 != 0) = false := by rw [h0]; rfl
          have HRES3 := Lib.hid hres
          clear hres h0 HRES2
          go_wp2_with fail
          refine q1.out.mono ?_
          rintro e w2 ⟨rfl, rfl⟩
          go_wp2_with fail
          refine q2.out.mono ?_
          rintro e w2 ⟨rfl, h2, hm2⟩
          have HS2 : Hid (∃ st' : Dk, st'.Ok ∧ DkAt c b st' w2 ∧ cleanD dir n (L.drop (k + 1)) st' = R) := ⟨_, HOK2.out, h2, HRES3.out⟩
          have HM2 := Lib.hid (HM.out.trans hm2)
          clear h2 hm2 q1 q2 hcell c1
          go_wp2
          go_roundw
          case rel => exact ⟨k + 1, hkm, by go_num, HS2.out, HM2.out⟩
          case measure => simp [intOf]; omega
        · rw [if_neg h0] at hres
          have hb0 : (r1 != 0) = true := by simpa using h0
          subst hres
          clear h0 HRES2
          go_wp2_with fail
          refine q1.out.mono ?_
          rintro e w2 ⟨rfl, rfl⟩
          go_wp2_with fail
          refine q2.out.mono ?_
          rintro e w2 ⟨rfl, h2, hm2⟩
          have H2 := Lib.hid h2
          have HM2 := Lib.hid ((HM1.out.trans HM.out).trans hm2)
          clear h2 hm2 q1 q2 hcell c1
          go_wp2
          go_ret
          exact ⟨rfl, H2.out, HM2.out⟩
    · have hres := HRES.out
      rw [List.drop_eq_nil_of_le (by rw [hm]; omega)] at hres
      subst hres
      have HM2 := Lib.hid (HM1.out.trans HM.out)
      go_wp2
      go_ret
      exact ⟨rfl, HDK.out, HM2.out⟩
end Go.Proofs.YtjhinifmdjlblaaGreat
