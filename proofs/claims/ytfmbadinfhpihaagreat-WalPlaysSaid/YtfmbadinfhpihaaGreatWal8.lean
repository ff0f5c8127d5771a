/-
  Package wal: a group laid; is a record too long; Records, Groups, Size, none.
  Conditions: texts of at most 10^8 bytes together; disks and logs that the call has made.
-/
import Derived.Test.YtfmbadinfhpihaaGreatWal7
set_option linter.unusedVariables false
set_option linter.unusedSimpArgs false
namespace Go.Proofs.YtfmbadinfhpihaaGreat
open Go.RowKit Go.Maps
set_option maxRecDepth 100000

def recOf (s : ByteArray) : ByteArray := (⟨#[114]⟩ : ByteArray) ++ s
theorem rec_data (s : ByteArray) : (recOf s).data.toList = 114 :: s.data.toList := by unfold recOf; rw [Sm.data_append]; rfl
theorem total_recs (ss : List ByteArray) : total (ss.map recOf) = total ss + ss.length := by
  induction ss with
  | nil => rfl
  | cons s ss ih =>
    rw [List.map_cons, total_cons, total_cons, ih, List.length_cons]
    have : (recOf s).size = s.size + 1 := by unfold recOf; rw [size_app']; have : (⟨#[114]⟩ : ByteArray).size = 1 := rfl; omega
    omega
theorem group_datas (ss : List ByteArray) (n : Nat) (hn : ss.length = n) : Sm.datas (ss.map recOf ++ [(⟨#[99]⟩ : ByteArray) ++ ⟨(Wire.enc (Wire.zz n)).toArray⟩]) = Wal.groupF (Sm.datas ss) := by
  subst hn
  unfold Wal.groupF Wal.mark Sm.datas
  rw [List.map_append, List.map_map, List.map_map, List.length_map]
  congr 1
def groupB (ss : List ByteArray) : ByteArray := ⟨(Wal.group (Sm.datas ss)).toArray⟩
theorem groupB_size (ss : List ByteArray) : (groupB ss).size = (Wal.group (Sm.datas ss)).length := by unfold groupB; rw [← len_data, Sm.data_mk]
theorem group_len (ss : List ByteArray) : (groupB ss).size ≤ total ss + 9 * ss.length + 19 := by
  rw [groupB_size]
  unfold Wal.group
  rw [Sum.frames_length]
  have h1 : Sum.total (Wal.groupF (Sm.datas ss)) = total ss + ss.length + (Wal.mark ss.length).length := by
    rw [← group_datas ss _ rfl, Sm.datas_total, total_append, total_recs]
    have : total [(⟨#[99]⟩ : ByteArray) ++ ⟨(Wire.enc (Wire.zz ss.length)).toArray⟩] = (Wal.mark ss.length).length := by
      rw [total_cons, total_nil, size_app']
      unfold Wal.mark
      have h2 : (⟨(Wire.enc (Wire.zz ss.length)).toArray⟩ : ByteArray).size = (Wire.enc (Wire.zz ss.length)).length := by rw [← len_data]
      have : (⟨#[99]⟩ : ByteArray).size = 1 := rfl
      simp only [List.length_cons]
      omega
    omega
  have h2 := Wal.mark_len ss.length
  have h3 : (Wal.groupF (Sm.datas ss)).length = ss.length + 1 := by simp [Wal.groupF, Sm.datas]
  omega
set_option maxHeartbeats 2000000 in
theorem group_any (ss : List ByteArray) (A : Option Addr) (cp : Nat) (w : World) (hr : Reads w w.heap.size 1 A ss.length (strs ss)) (hT : total ss ≤ 50000000) (hL : ss.length ≤ 1000000) :
    Calls Tryz.prog 45 #[.slice A ss.length cp] w fun e w' => e = .returned (.string (groupB ss)) ∧ Below w.heap.size w w' := by
  obtain ⟨i0, hinf, hz0, hz1, hz2⟩ := info_parts info_string
  obtain ⟨n, hn⟩ : ∃ n, ss.length = n := ⟨_, rfl⟩
  rw [hn] at hr hL ⊢
  have HN := Lib.hid hn
  have HR := Lib.hid hr
  clear hn hr
  go_enter Tryz.func45, Tryz.ntmps45
  go_wp2
  go_loopw [3, 11] (fun l i wr => ∃ (k : Nat), k ≤ n ∧ i = .int .i64 k ∧ Hid (wr.ownsRow w.heap.size 9 1 l k (strs ((ss.take k).map recOf))) ∧ Hid (Below w.heap.size w wr)) (fun _ i _ => n - (intOf i).toNat)
  case atStart => exact ⟨0, Nat.zero_le _, rfl, World.ownsRow_nil _ _ _ _, Below.refl _ _⟩
  case round =>
    obtain ⟨k, hk, rfl, HO, HB⟩ := hrel
    have hsz := HB.out.size
    by_cases hlt : k < n
    · obtain ⟨ad, s, rfl, hab, hsk, hcell⟩ := str_at (HR.out.below HB.out) hlt
      have hsl : s.size ≤ total ss := size_le_total (List.mem_of_getElem? hsk)
      have HSK := Lib.hid hsk
      obtain ⟨A2, c2, rfl, hc2⟩ := own_form HO.out
      have hown := HO.out
      clear hsk
      go_wp2_with (at_builtin; refine wpList_append_any _ rfl _ _ 22 rfl w.heap.size 9 i0 (.string ⟨#[]⟩) 1 16 Tryz.underlying22 hinf hz0 hz1 hz2 rfl (by decide) _ _ _ rfl (hown.alloc _) (wr.heap.size + 1) (some ⟨wr.heap.size, 0, none⟩) 1 1 [.string (recOf s)] rfl ?c1 ?c2 ?c3 ?c4 ?c5 ?_)
      case c1 => exact reads_newV wr _ _ _ rfl rfl rfl (Nat.lt_succ_self _)
      case c2 => simp [Value.oneCell']
      case c3 => unfold maxLen; omega
      case c4 => omega
      case c5 => simp; omega
      intro v4 w4 hown4 hgrow4 hlink4
      have HB4 : Hid (Below w.heap.size w w4) := by
        show Below _ _ _
        refine (HB.out.alloc hsz _).trans ⟨hgrow4.os, hgrow4.tape, hgrow4.output, hgrow4.size, fun q hq => hgrow4.block q (by simp; omega) (fun e => ?_)⟩
        have := (hown.lt q e.symm).1
        omega
      have HO4 : Hid (w4.ownsRow w.heap.size 9 1 v4 (k + 1) (strs ((ss.take (k + 1)).map recOf))) := by
        show World.ownsRow _ _ _ _ _ _ _
        rw [take_snoc HSK.out, List.map_append, strs_append, List.map_take]
        exact hown4
      clear hgrow4 hlink4 hown4 hown
      go_wp2
      go_roundw
      case rel => exact ⟨k + 1, hlt, by go_num, HO4.out, HB4.out⟩
      case measure => simp [intOf]; omega
    · obtain rfl : k = n := by omega
      obtain ⟨A2, c2, rfl, hc2⟩ := own_form HO.out
      have HO' : Hid (wr.ownsRow w.heap.size 9 1 (.slice A2 k c2) k (strs (ss.map recOf))) := by
        have h := HO.out
        rw [List.take_of_length_le (by rw [HN.out]; exact Nat.le_refl _)] at h
        exact h
      clear HO
      go_wp2_with fail
      refine (Wi.newWriter_any wr).mono ?_
      rintro e w2 ⟨rfl, hw2, hb2⟩
      have HO2 := Lib.hid (Wi.ownsRow_keep HO'.out (fun q hq => hb2.block q (HO'.out.lt q hq).2))
      have HB2 := Lib.hid (HB.out.trans (hb2.mono hsz))
      have hz2' := hb2.size
      have q := Wi.num1_any wr.heap.size [wr.heap.size] ((0, []) : Wire.St) (k : Int) (by omega) (by omega) w2.heap.size 1 w2 rfl hw2 (by decide)
      have hst : Wire.stNum ((0, []) : Wire.St) (k : Int) = (0, Wire.enc (Wire.zz k)) := rfl
      rw [hst] at q
      have HLT := Lib.hid HO'.out.lt
      clear hb2 hw2 hst HO' HB
      go_wp2_with fail
      refine q.mono ?_
      rintro e w3 ⟨rfl, S3, hw3, hm3⟩
      have HO3 := Lib.hid (Wi.ownsRow_keep HO2.out (fun q hq => hm3.block q (HO2.out.lt q hq).2 (fun e => by have h1 := (HLT.out q hq).2; simp at e; omega)))
      have HB3 : Hid (Below w.heap.size w w3) := by
        show Below _ _ _
        exact HB2.out.trans ⟨hm3.os, hm3.tape, hm3.output, hm3.size, fun q hq => hm3.block q (Nat.lt_of_lt_of_le hq HB2.out.size) (by simp; omega)⟩
      have q3 := Wi.bytes_ok wr.heap.size S3 (Wire.enc (Wire.zz k)) w3 hw3
      have hz3 := HB3.out.size
      have hown := HO3.out
      clear hw3 hm3 q HO2 HB2 HLT HO3
      go_wp2_with fail
      refine q3.mono ?_
      rintro e w4 ⟨rfl, rfl⟩
      obtain ⟨mk, hmk⟩ : ∃ mk : ByteArray, mk = (⟨#[99]⟩ : ByteArray) ++ ⟨(Wire.enc (Wire.zz k)).toArray⟩ := ⟨_, rfl⟩
      have HMK := Lib.hid hmk
      clear hmk
      have hel := Wire.enc_le (Wire.zz (k : Int))
      go_wp2_with (at_builtin; refine wpList_append_any _ rfl _ _ 22 rfl w.heap.size 9 i0 (.string ⟨#[]⟩) 1 16 Tryz.underlying22 hinf hz0 hz1 hz2 rfl (by decide) _ _ _ rfl (hown.alloc _) (w3.heap.size + 1) (some ⟨w3.heap.size, 0, none⟩) 1 1 [.string ((⟨#[99]⟩ : ByteArray) ++ ⟨(Wire.enc (Wire.zz k)).toArray⟩)] rfl ?c1 ?c2 ?c3 ?c4 ?c5 ?_)
      case c1 => exact reads_newV w3 _ _ _ rfl rfl rfl (Nat.lt_succ_self _)
      case c2 => simp [Value.oneCell']
      case c3 => unfold maxLen; omega
      case c4 => omega
      case c5 => simp; omega
      intro v4 w4 hown4 hgrow4 hlink4
      have hmk := HMK.out
      rw [← hmk] at hown4
      have HB4 : Hid (Below w.heap.size w w4) := by
        show Below _ _ _
        refine (HB3.out.alloc hz3 _).trans ⟨hgrow4.os, hgrow4.tape, hgrow4.output, hgrow4.size, fun q hq => hgrow4.block q (by simp; omega) (fun e => ?_)⟩
        have := (hown.lt q e.symm).1
        omega
      obtain ⟨A4, c4, rfl, hc4⟩ := own_form hown4
      have hrd : Reads w4 w4.heap.size 1 A4 (k + 1) (strs (ss.map recOf ++ [mk])) := by
        rw [strs_append]
        exact Reads.of_own hown4
      have hlen : (ss.map recOf ++ [mk]).length = k + 1 := by rw [List.length_append, List.length_map, HN.out]; rfl
      have hmks : mk.size ≤ 11 := by
        rw [hmk, size_app']
        have h1 := Wire.enc_le (Wire.zz k)
        have h2 : (⟨(Wire.enc (Wire.zz k)).toArray⟩ : ByteArray).size = (Wire.enc (Wire.zz k)).length := by rw [← len_data]
        have : (⟨#[99]⟩ : ByteArray).size = 1 := rfl
        omega
      have q5 := Sm.frame_any (ss.map recOf ++ [mk]) A4 c4 w4 (by rw [hlen]; exact hrd) (by rw [hlen, total_append, total_recs, total_cons, total_nil, HN.out]; omega)
      rw [hlen] at q5
      have hres : (⟨(Sum.frames (Sm.datas (ss.map recOf ++ [mk]))).toArray⟩ : ByteArray) = groupB ss := by
        rw [hmk, group_datas ss k HN.out]
        rfl
      rw [hres] at q5
      clear hgrow4 hlink4 hown4 hown hrd hlen hmks hmk hres q3 HMK
      go_wp2_with fail
      refine q5.mono ?_
      rintro e w5 ⟨rfl, hb5⟩
      have HB5 := Lib.hid (HB4.out.trans (hb5.mono HB4.out.size))
      clear hb5 q5
      go_wp2
      go_ret
      exact ⟨rfl, HB5.out⟩
/-- A log's none. -/
theorem none_any (g c : Nat) (T : List Nat) (nm : ByteArray) (lg : Lg) (w : World) (h : LogAt g c T nm lg w) :
    Calls Tryz.prog 42 #[.pointer (some ⟨g, 0, none⟩)] w fun e w' => e = .returned (.bool false) ∧ w = w' := by
  have e0 := h.cell0
  clear h
  go_enter Tryz.func42, Tryz.ntmps42
  go_wp2
  go_ret
  exact ⟨rfl, rfl⟩
theorem groups_any (g c : Nat) (T : List Nat) (nm : ByteArray) (lg : Lg) (w : World) (h : LogAt g c T nm lg w) :
    Calls Tryz.prog 13 #[.pointer (some ⟨g, 0, none⟩)] w fun e w' => e = .returned (.int .i64 lg.groups) ∧ w = w' := by
  have e3 := h.cell3
  have q := none_any g c T nm lg w h
  clear h
  go_enter Tryz.func13, Tryz.ntmps13
  go_wp2_with fail
  refine q.mono ?_
  rintro e w1 ⟨rfl, rfl⟩
  go_wp2
  go_ret
  exact ⟨rfl, rfl⟩
theorem size_any' (g c : Nat) (T : List Nat) (nm : ByteArray) (lg : Lg) (w : World) (h : LogAt g c T nm lg w) :
    Calls Tryz.prog 14 #[.pointer (some ⟨g, 0, none⟩)] w fun e w' => e = .returned (.int .i64 lg.size) ∧ w = w' := by
  have e3 := h.cell4
  have q := none_any g c T nm lg w h
  clear h
  go_enter Tryz.func14, Tryz.ntmps14
  go_wp2_with fail
  refine q.mono ?_
  rintro e w1 ⟨rfl, rfl⟩
  go_wp2
  go_ret
  exact ⟨rfl, rfl⟩
theorem clone_own (ss : List ByteArray) (v : Value) (n B : Nat) (w : World) (hn : ss.length = n) (ho : w.ownsRow B 9 1 v n (strs ss)) (hb : n ≤ 1000000000) :
    Calls Tryz.prog 50 #[v] w fun e w' => ∃ v', e = .returned v' ∧ w'.ownsRow w.heap.size 9 1 v' n (strs ss) ∧ Below w.heap.size w w' := by
  obtain ⟨A, cap, rfl, _⟩ := own_form ho
  rcases Nat.eq_zero_or_pos n with h0 | h0
  · subst h0
    have : ss = [] := List.eq_nil_of_length_eq_zero hn
    subst this
    rcases A with _ | ad
    · refine (Tryz.slices_Clone_string_nil 0 cap w).mono ?_
      rintro e w' ⟨rfl, rfl⟩
      exact ⟨_, rfl, World.ownsRow_nil _ _ _ _, Below.refl _ _⟩
    · refine (Tryz.slices_Clone_string_zero ad cap w).mono ?_
      rintro e w' ⟨v', rfl, h1, _, h2⟩
      exact ⟨_, rfl, h1, h2⟩
  · obtain ⟨g, cap', hv, _, hlt⟩ := ho.form h0
    injection hv with hA _ _
    subst hA
    have hc := ho.cells (g := g) rfl
    refine (Tryz.slices_Clone_string g 0 n cap ss w (by omega) (by omega) (fun j hj => ?_)).mono ?_
    · have := hc j (.string ss[j]) (by simp [strs, hj])
      rw [List.getD_eq_getElem?_getD, List.getElem?_eq_getElem hj]
      unfold Addr.add at this
      split at this
      · rename_i h1; subst h1; exact this
      · exact this
    · rintro e w' ⟨v', rfl, h1, _, h2⟩
      rw [List.take_of_length_le (by omega)] at h1
      exact ⟨_, rfl, h1, h2⟩
set_option maxHeartbeats 1000000 in
theorem records_any (g c : Nat) (T : List Nat) (nm : ByteArray) (lg : Lg) (w : World) (h : LogAt g c T nm lg w) (hl : lg.recs.length ≤ 1000000000) :
    Calls Tryz.prog 12 #[.pointer (some ⟨g, 0, none⟩)] w fun e w' => ∃ v, e = .returned v ∧ w'.ownsRow w.heap.size 9 1 v lg.recs.length (strs lg.recs) ∧ Below w.heap.size w w' := by
  have q := none_any g c T nm lg w h
  obtain ⟨v, _, hbk, hown, hne⟩ := h
  have q2 := clone_own lg.recs v lg.recs.length 0 w rfl hown hl
  have d2 : w.cell? ⟨g, 2, none⟩ = some v := by rw [Lib.cell_of_heap hbk]; rfl
  obtain ⟨A, cap, rfl, _⟩ := own_form hown
  obtain ⟨n, hn⟩ : ∃ n, lg.recs.length = n := ⟨_, rfl⟩
  rw [hn] at q2 d2 ⊢
  clear hbk hown hne hl hn
  go_enter Tryz.func12, Tryz.ntmps12
  go_wp2_with fail
  refine q.mono ?_
  rintro e w1 ⟨rfl, rfl⟩
  go_wp2_with fail
  refine q2.mono ?_
  rintro e w2 ⟨v, rfl, h2, hb2⟩
  have H2 := Lib.hid h2
  have HB2 := Lib.hid hb2
  clear h2 hb2 q2
  go_wp2
  go_ret
  exact ⟨v, rfl, H2.out, HB2.out⟩
/-- Is a record too long? -/
def longB (ss : List ByteArray) : Bool := ss.any fun s => decide (60000 ≤ s.size)
theorem long1_any (s : ByteArray) (hs : s.size ≤ 9223372036854775807) (w : World) :
    Calls Tryz.prog 44 #[.string s] w fun e w' => e = .returned (.bool (decide (60000 ≤ s.size))) ∧ w = w' := by
  by_cases h : 60000 ≤ s.size
  · have hb : decide (60000 ≤ s.size) = true := by simpa using h
    rw [hb]
    go_enter Tryz.func44, Tryz.ntmps44
    go_wp2
    go_ret
    exact ⟨ret_bool (by simp; omega), rfl⟩
  · have hb : decide (60000 ≤ s.size) = false := by simpa using h
    rw [hb]
    go_enter Tryz.func44, Tryz.ntmps44
    go_wp2
    go_ret
    exact ⟨ret_bool (by simp; omega), rfl⟩
def IsIdx (ss : List ByteArray) (z : Int) : Prop := decide (0 ≤ z) = longB ss
set_option maxHeartbeats 1000000 in
theorem index_long (ss : List ByteArray) (A : Option Addr) (cp : Nat) (w : World) (hr : Reads w w.heap.size 1 A ss.length (strs ss)) (hl : ss.length ≤ 1000000) (hs : ∀ s ∈ ss, s.size ≤ 9223372036854775807) :
    Calls Tryz.prog 155 #[.slice A ss.length cp, .func (.func 44) #[] #[]] w fun e w' => ∃ z : Int, e = .returned (.int .i64 z) ∧ IsIdx ss z ∧ w = w' := by
  obtain ⟨n, hn⟩ : ∃ n, ss.length = n := ⟨_, rfl⟩
  rw [hn] at hr hl ⊢
  have HN := Lib.hid hn
  have HS := Lib.hid hs
  have HR := Lib.hid hr
  clear hn hr hs
  go_enter Tryz.func155, Tryz.ntmps155
  go_wp2
  go_loop [8] (fun i => ∃ k : Nat, k ≤ n ∧ i = .int .i64 k ∧ Hid (∀ s ∈ ss.take k, ¬ 60000 ≤ s.size)) (fun i => n - (intOf i).toNat)
  case atStart => exact ⟨0, Nat.zero_le _, rfl, fun s h => by simp at h⟩
  case round =>
    obtain ⟨k, hk, rfl, HA⟩ := hrel
    by_cases hlt : k < n
    · obtain ⟨ad, s, rfl, hab, hsk, hcell⟩ := str_at HR.out hlt
      have hss := HS.out s (List.mem_of_getElem? hsk)
      have HSK := Lib.hid hsk
      have q := long1_any s hss w
      by_cases h6 : 60000 ≤ s.size
      · rw [decide_eq_true h6] at q
        have HI : Hid (IsIdx ss (k : Int)) := by
          show decide _ = _
          rw [decide_eq_true (by omega)]
          symm
          unfold longB
          rw [List.any_eq_true]
          exact ⟨s, List.mem_of_getElem? hsk, by simpa using h6⟩
        clear hsk h6
        go_wp2_with fail
        refine q.mono ?_
        rintro e w1 ⟨rfl, rfl⟩
        go_wp2
        go_ret
        exact ⟨(k : Int), rfl, HI.out, rfl⟩
      · rw [decide_eq_false h6] at q
        have HA2 : Hid (∀ s ∈ ss.take (k + 1), ¬ 60000 ≤ s.size) := by
          intro x hx
          rw [take_snoc hsk] at hx
          rcases List.mem_append.1 hx with h | h
          · exact HA.out x h
          · obtain rfl : x = s := by simpa using h
            exact h6
        clear hsk h6
        go_wp2_with fail
        refine q.mono ?_
        rintro e w1 ⟨rfl, rfl⟩
        go_wp2
        go_round
        case rel => exact ⟨k + 1, hlt, by go_num, HA2.out⟩
        case measure => simp [intOf]; omega
    · obtain rfl : k = n := by omega
      have HI : Hid (IsIdx ss (-1)) := by
        show decide _ = _
        rw [decide_eq_false (by omega)]
        symm
        unfold longB
        rw [List.any_eq_false]
        intro x hx
        have := HA.out x (by rw [List.take_of_length_le (by rw [HN.out]; exact Nat.le_refl _)]; exact hx)
        simpa using this
      go_wp2
      go_ret
      exact ⟨-1, rfl, HI.out, rfl⟩
theorem long_any (ss : List ByteArray) (A : Option Addr) (cp : Nat) (w : World) (hr : Reads w w.heap.size 1 A ss.length (strs ss)) (hl : ss.length ≤ 1000000) (hs : ∀ s ∈ ss, s.size ≤ 9223372036854775807) :
    Calls Tryz.prog 43 #[.slice A ss.length cp, .func (.func 44) #[] #[]] w fun e w' => e = .returned (.bool (longB ss)) ∧ w = w' := by
  have q := index_long ss A cp w hr hl hs
  clear hr hl hs
  go_enter Tryz.func43, Tryz.ntmps43
  go_wp2_with fail
  refine q.mono ?_
  rintro e w1 ⟨z, rfl, hz, rfl⟩
  have HZ := Lib.hid hz
  clear hz q
  go_wp2
  go_ret
  exact ⟨ret_bool HZ.out, rfl⟩
end Go.Proofs.YtfmbadinfhpihaaGreat
