/-
  The walk of SumBack: what was framed is found, with whatever broken thing behind it; cut within a frame the ones ahead are found.
  Conditions: texts within what a slice and a string may have; cut an int.
-/
import Derived.Test.YtfejelcjklmchaaSum4
import Derived.Deep.DeepCutAuto
namespace Go.Proofs.Ytfejelcjklmchaa
open Go.RowKit

theorem texts_datas (ss : List ByteArray) : texts (datas ss) = ss := by
  induction ss with
  | nil => rfl
  | cons s ss ih =>
    have h1 : texts (datas (s :: ss)) = ⟨s.data.toList.toArray⟩ :: texts (datas ss) := rfl
    rw [h1, ih]
theorem texts_length (ls : List (List UInt8)) : (texts ls).length = ls.length := by simp [texts]
theorem datas_length (ss : List ByteArray) : (datas ss).length = ss.length := by simp [datas]
theorem texts_take (ls : List (List UInt8)) (k : Nat) : texts (ls.take k) = (texts ls).take k := by simp [texts, List.map_take]
theorem datas_texts (ls : List (List UInt8)) : datas (texts ls) = ls := by
  induction ls with
  | nil => rfl
  | cons l ls ih =>
    have h1 : datas (texts (l :: ls)) = (⟨l.toArray⟩ : ByteArray).data.toList :: datas (texts ls) := rfl
    rw [h1, ih, data_mk]
theorem datas_small {ss : List ByteArray} {n : Nat} (h : total ss ≤ n) : ∀ l ∈ datas ss, l.length ≤ n := by
  intro l hl
  simp only [datas, List.mem_map] at hl
  obtain ⟨s, hs, rfl⟩ := hl
  rw [len_data]
  have := size_le_total hs
  omega
/-- A first part of a slice of texts. -/
theorem reads_take {w : World} {B n k : Nat} {A : Option Addr} {ss : List ByteArray} (h : Reads w B 1 A n (strs ss)) (hk : k ≤ n) : Reads w B 1 A k (strs (ss.take k)) := by
  have hl := h.1
  rw [strs_len] at hl
  refine ⟨by rw [strs_len, List.length_take]; omega, fun hk0 => ?_⟩
  obtain ⟨ad, e, hb, hc⟩ := h.2 (by omega)
  refine ⟨ad, e, hb, fun j u hu => hc j u ?_⟩
  simp only [strs, List.getElem?_map, List.getElem?_take] at hu ⊢
  split at hu
  · exact hu
  · simp at hu
theorem same_is (ss tt : List ByteArray) (A A' : Option Addr) (c c' n m B B' : Nat) (hn : ss.length = n) (hm : tt.length = m) (he : ss = tt) (w : World) (hr : Reads w B 1 A n (strs ss)) (hr' : Reads w B' 1 A' m (strs tt)) (hl : n ≤ 1000000000) :
    Calls Try.prog 11 #[.slice A n c, .slice A' m c'] w fun e w' => e = .returned (.bool true) ∧ ∃ q, w' = w.drewN q := by
  subst hn hm
  refine (same_any ss tt A A' c c' (max B B') w (hr.more (Nat.le_max_left _ _)) (hr'.more (Nat.le_max_right _ _)) (by omega) (by subst he; omega)).mono ?_
  rintro e w' ⟨rfl, h⟩
  exact ⟨ret_bool (sameB_iff.2 he), h⟩

set_option maxHeartbeats 1000000 in
theorem back_walk (ss : List ByteArray) (cut : Int) (h1 : -9223372036854775808 ≤ cut) (h2 : cut ≤ 9223372036854775807) (A : Option Addr) (c : Nat) (w : World) (hr : Reads w w.heap.size 1 A ss.length (strs ss)) (hc : ss.length ≤ c) (hl : ss.length ≤ 9223372036854775807) (hs : ∀ s ∈ ss, s.size ≤ 9223372036854775807) :
    Calls Try.prog 3 #[.slice A ss.length c, .int .i64 cut] w fun e w' => e = .returned (.bool true) ∧ Below w.heap.size w w' := by
  have Hs := Lib.hid hs; clear hs
  have Hr := Lib.hid hr; clear hr
  cases hsh : shortB 100 6000 ss
  · have Hsh := Lib.hid hsh; clear hsh
    go_enter Try.func3, Try.ntmps3
    go_wp2_with fail
    refine (short4_any ss A c _ Hr.out hl Hs.out).mono ?_
    rintro e w1 ⟨rfl, hb1⟩
    rw [Hsh.out]
    go_wp2_with fail
    refine (alive4_any _).mono ?_
    rintro e w2 ⟨rfl, hb2⟩
    go_wp2
    go_ret
    exact ⟨rfl, hb1.trans (hb2.mono hb1.size)⟩
  · have hsh' := shortB_iff.1 hsh
    have Hsh := Lib.hid hsh; clear hsh
    have htot := hsh'.2
    have hlen := hsh'.1
    clear hsh'
    by_cases hneg : cut < 0
    · go_enter Try.func3, Try.ntmps3
      go_wp2_with fail
      refine (short4_any ss A c _ Hr.out hl Hs.out).mono ?_
      rintro e w1 ⟨rfl, hb1⟩
      rw [Hsh.out]
      go_wp2_with fail
      refine (alive4_any _).mono ?_
      rintro e w2 ⟨rfl, hb2⟩
      go_wp2
      go_ret
      exact ⟨rfl, hb1.trans (hb2.mono hb1.size)⟩
    · obtain ⟨k, rfl⟩ := Int.eq_ofNat_of_zero_le (by omega : 0 ≤ cut)
      obtain ⟨F, HF⟩ : ∃ F : List UInt8, Hid (Sum.frames (datas ss) = F) := ⟨_, rfl⟩
      obtain ⟨u, Hu⟩ : ∃ u : ByteArray, Hid ((⟨F.toArray⟩ : ByteArray) = u) := ⟨_, rfl⟩
      have hud : u.data.toList = F := by rw [← Hu.out, data_mk]
      have hus : u.size ≤ 7000 := by
        rw [← len_data, hud, ← HF.out, Sum.frames_length, datas_total, datas_length]; omega
      have Hud := Lib.hid hud; clear hud
      have hsmall := datas_small (n := 60000) (ss := ss) (by omega)
      have hsc1 : Sum.scan (u ++ ⟨#[49, 50, 51, 52, 53, 54, 55]⟩).data.toList = (datas ss, u.size) := by
        rw [data_append, Hud.out, ← HF.out, Sum.scan_frames hsmall, Sum.scan_short (by decide), ← len_data u, Hud.out, ← HF.out]
        simp
      have Hsc1 := Lib.hid hsc1; clear hsc1
      have Hsmall := Lib.hid hsmall; clear hsmall
      go_enter Try.func3, Try.ntmps3
      go_wp2_with fail
      refine (short4_any ss A c _ Hr.out hl Hs.out).mono ?_
      rintro e w1 ⟨rfl, hb1⟩
      rw [Hsh.out]
      have hz1 := hb1.size
      have Hr1 := Lib.hid ((Hr.out.below hb1).more hz1)
      go_wp2_with fail
      refine (frame_is ss A c _ rfl F HF.out _ Hr1.out (by omega)).mono ?_
      rintro e w2 ⟨rfl, hb2⟩
      rw [Hu.out]
      have hbw2 : Below w.heap.size w w2 := hb1.trans (hb2.mono hz1)
      have hz2 := hbw2.size
      clear hb1 hb2 hz1 Hr1
      go_wp2_with fail
      refine (scan_is _ (datas ss) u.size Hsc1.out _ (by rw [ByteArray.size_append']; have : (⟨#[49, 50, 51, 52, 53, 54, 55]⟩ : ByteArray).size = 7 := rfl; omega)).mono ?_
      rintro e w3 ⟨A3, c3, rfl, hr3, _, hb3⟩
      have hbw3 : Below w.heap.size w w3 := hbw2.trans (hb3.mono hz2)
      have hz3 := hbw3.size
      clear hbw2 hb3
      go_wp2_with fail
      refine (same_is (texts (datas ss)) ss A3 A c3 c _ _ _ _ (texts_length _) rfl (texts_datas ss) _ hr3 (Hr.out.below hbw3) (by rw [datas_length]; omega)).mono ?_
      rintro e w4 ⟨rfl, q4, hw4⟩
      have hbw4 : Below w.heap.size w w4 := by rw [hw4]; exact below_drewN hbw3 q4
      have hz4 := hbw4.size
      clear hw4 hbw3 hz3 hr3
      by_cases hcl : u.size ≤ k
      · go_wp2_with fail
        refine (alive4_any _).mono ?_
        rintro e w5 ⟨rfl, hb5⟩
        go_wp2
        go_ret
        exact ⟨rfl, hbw4.trans (hb5.mono hz4)⟩
      · obtain ⟨y, Hy⟩ : ∃ y, Hid ((Sum.scan (F.take k)).1 = y) := ⟨_, rfl⟩
        obtain ⟨m, Hm⟩ : ∃ m, Hid ((Sum.scan (F.take k)).2 = m) := ⟨_, rfl⟩
        have hsc2 : Sum.scan (u.extract 0 k).data.toList = (y, m) := by
          rw [extract_data', List.drop_zero, Nat.sub_zero, Hud.out, ← Hy.out, ← Hm.out]
        have Hsc2 := Lib.hid hsc2; clear hsc2
        have hFl : k < F.length := by rw [← Hud.out, len_data]; omega
        have hcut := Sum.scan_cut (Hsmall.out) k (by rw [HF.out]; exact hFl)
        rw [HF.out, Hy.out] at hcut
        have hyl : y.length ≤ ss.length := by have := hcut.2; rw [datas_length] at this; exact this
        have hmk : m ≤ k := by
          have := Sum.scan_le (F.take k)
          rw [Hm.out, List.length_take] at this
          omega
        obtain ⟨G, HG⟩ : ∃ G : List UInt8, Hid (G = (u.extract 0 m).data.toList) := ⟨_, rfl⟩
        have hyF : Sum.frames (datas (texts y)) = G := by
          have := Sum.scan_framed (F.take k)
          rw [Hy.out, Hm.out, List.take_take, Nat.min_eq_left hmk] at this
          rw [datas_texts, this, HG.out, extract_data', List.drop_zero, Nat.sub_zero, Hud.out]
        have HyF := Lib.hid hyF; clear hyF
        have hty : texts y = ss.take y.length := by
          have := congrArg texts hcut.1
          rw [texts_take, texts_datas] at this
          exact this
        have Hty := Lib.hid hty; clear hty hcut hFl
        have hytot : total (texts y) + 8 * y.length ≤ 1000000000 := by
          rw [Hty.out]
          have := total_take_le ss y.length
          omega
        have b0 : (0 : Int) ≤ (k : Int) := by omega
        have b1 : (k : Int) ≤ (u.size : Int) := by omega
        have b2 : decide ((m : Int) ≤ (k : Int)) = true := by simp; omega
        have b3 : decide ((y.length : Int) ≤ (ss.length : Int)) = true := by simp; omega
        have b4 : (y.length : Int) ≤ (c : Int) := by omega
        have b5 : (m : Int) ≤ (u.size : Int) := by omega
        have hk9 : (u.extract 0 k).size ≤ 7000 := by rw [extract_size _ _ _ (by omega)]; omega
        go_wp2_with fail
        refine (scan_is (u.extract 0 k) y m Hsc2.out _ (by omega)).mono ?_
        rintro e w5 ⟨A5, c5, rfl, hr5, _, hb5⟩
        have hbw5 : Below w.heap.size w w5 := hbw4.trans (hb5.mono hz4)
        have hz5 := hbw5.size
        clear hbw4 hb5 hz4
        have heq : (G == (u.extract 0 m).toList) = true := by rw [beq_iff_eq, ByteArray.toList_eq]; exact HG.out
        go_wp2_with fail
        go_region_held3 (fun _ => True) (trivial) (first
          | (go_at_call 8; refine (alive4_any _).mono ?_; rintro e w6 ⟨rfl, hb6⟩)
          | (go_at_call 11; refine (same_is (texts y) (ss.take y.length) A5 A c5 c _ _ _ _ (texts_length y) (by rw [List.length_take]; omega) Hty.out _ (hr5.drew.below hb6) (reads_take ((Hr.out.below hbw5).drew.below (hb6.mono hz5)) hyl) (by omega)).mono ?_; rintro e w7 ⟨rfl, q7, rfl⟩)
          | (go_at_call 9; refine (frame_is (texts y) A5 c5 _ (texts_length y) _ HyF.out _ (((hr5.drew.below hb6).drewN q7).more hb6.size) hytot).mono ?_; rintro e w8 ⟨rfl, hb8⟩))
        go_wp2
        go_ret
        exact ⟨rfl, (hbw5.drew.trans (hb6.mono hz5)).trans ((below_drewN (Below.refl _ _) q7).trans (hb8.mono (Nat.le_trans hz5 hb6.size)))⟩
end Go.Proofs.Ytfejelcjklmchaa
