/-
  The walk of SumRows: frames one behind the other are those of all; all of them are found, and so is the first part.
  Conditions: texts within what a slice and a string may have.
-/
import Derived.Test.YtfejelcjklmchaaSumBack
import Derived.Test.YtfejelcjklmchaaWords2
namespace Go.Proofs.Ytfejelcjklmchaa
open Go.RowKit

theorem strs_one (ss : List ByteArray) : ∀ u ∈ strs ss, u.oneCell' = true := by
  intro u hu
  simp only [strs, List.mem_map] at hu
  obtain ⟨s, _, rfl⟩ := hu
  rfl
theorem strs_append (a b : List ByteArray) : strs a ++ strs b = strs (a ++ b) := by simp [strs]
theorem datas_append (a b : List ByteArray) : datas (a ++ b) = datas a ++ datas b := by simp [datas]

set_option maxHeartbeats 1000000 in
theorem rows_walk (aa bb : List ByteArray) (A B : Option Addr) (c d : Nat) (w : World) (hr : Reads w w.heap.size 1 A aa.length (strs aa)) (hr' : Reads w w.heap.size 1 B bb.length (strs bb))
    (hl : aa.length ≤ 9223372036854775807) (hl' : bb.length ≤ 9223372036854775807) (hs : ∀ s ∈ aa, s.size ≤ 9223372036854775807) (hs' : ∀ s ∈ bb, s.size ≤ 9223372036854775807) :
    Calls Try.prog 6 #[.slice A aa.length c, .slice B bb.length d] w fun e w' => e = .returned (.bool true) ∧ Below w.heap.size w w' := by
  have Hs := Lib.hid hs; clear hs
  have Hs' := Lib.hid hs'; clear hs'
  have Hr := Lib.hid hr; clear hr
  have Hr' := Lib.hid hr'; clear hr'
  obtain ⟨i0, hi, hz0, hz1, hz2⟩ := info_parts info_string
  cases hsh : shortB 100 6000 aa
  · have Hsh := Lib.hid hsh; clear hsh
    go_enter Try.func6, Try.ntmps6
    go_wp2_with fail
    refine (short4_any aa A c _ Hr.out hl Hs.out).mono ?_
    rintro e w1 ⟨rfl, hb1⟩
    rw [Hsh.out]
    go_wp2_with fail
    refine (alive4_any _).mono ?_
    rintro e w2 ⟨rfl, hb2⟩
    go_wp2
    go_ret
    exact ⟨rfl, hb1.trans (hb2.mono hb1.size)⟩
  · have hsh' := shortB_iff.1 hsh
    have Hsh := Lib.hid hsh; clear hsh
    have htot := hsh'.2
    have hlen := hsh'.1
    clear hsh'
    cases hsk : shortB 100 6000 bb
    · have Hsk := Lib.hid hsk; clear hsk
      go_enter Try.func6, Try.ntmps6
      go_wp2_with fail
      refine (short4_any aa A c _ Hr.out hl Hs.out).mono ?_
      rintro e w1 ⟨rfl, hb1⟩
      rw [Hsh.out]
      have hz1' := hb1.size
      go_wp2_with fail
      refine (short4_any bb B d _ ((Hr'.out.below hb1).more hz1') hl' Hs'.out).mono ?_
      rintro e w2 ⟨rfl, hb2⟩
      rw [Hsk.out]
      have hbw2 := hb1.trans (hb2.mono hz1')
      go_wp2_with fail
      refine (alive4_any _).mono ?_
      rintro e w3 ⟨rfl, hb3⟩
      go_wp2
      go_ret
      exact ⟨rfl, hbw2.trans (hb3.mono hbw2.size)⟩
    · have hsk' := shortB_iff.1 hsk
      have Hsk := Lib.hid hsk; clear hsk
      have htot' := hsk'.2
      have hlen' := hsk'.1
      clear hsk'
      obtain ⟨F, HF⟩ : ∃ F : List UInt8, Hid (Sum.frames (datas aa) = F) := ⟨_, rfl⟩
      obtain ⟨u, Hu⟩ : ∃ u : ByteArray, Hid ((⟨F.toArray⟩ : ByteArray) = u) := ⟨_, rfl⟩
      obtain ⟨G, HG⟩ : ∃ G : List UInt8, Hid (Sum.frames (datas bb) = G) := ⟨_, rfl⟩
      obtain ⟨v, Hv⟩ : ∃ v : ByteArray, Hid ((⟨G.toArray⟩ : ByteArray) = v) := ⟨_, rfl⟩
      have hud : u.data.toList = F := by rw [← Hu.out, data_mk]
      have hvd : v.data.toList = G := by rw [← Hv.out, data_mk]
      have hus : u.size ≤ 7000 := by
        rw [← len_data, hud, ← HF.out, Sum.frames_length, datas_total, datas_length]; omega
      have hvs : v.size ≤ 7000 := by
        rw [← len_data, hvd, ← HG.out, Sum.frames_length, datas_total, datas_length]; omega
      have Hud := Lib.hid hud; clear hud
      have Hvd := Lib.hid hvd; clear hvd
      have hsc1 : Sum.scan (u ++ v).data.toList = (datas (aa ++ bb), u.size + v.size) := by
        rw [data_append, Hud.out, Hvd.out, ← HF.out, ← HG.out, ← Sum.frames_append, ← datas_append]
        have h1 := Sum.scan_frames (l := datas (aa ++ bb)) (datas_small (n := 60000) (by rw [total_append]; omega)) []
        rw [Sum.scan_short (b := []) (by decide)] at h1
        simp only [List.append_nil, Nat.add_zero] at h1
        rw [h1, datas_append, Sum.frames_append, List.length_append, HF.out, HG.out, ← Hud.out, ← Hvd.out, len_data, len_data]
      have Hsc1 := Lib.hid hsc1; clear hsc1
      have hsc2 : Sum.scan u.data.toList = (datas aa, u.size) := by
        rw [← len_data u, Hud.out, ← HF.out]
        have h1 := Sum.scan_frames (l := datas aa) (datas_small (n := 60000) (by omega)) []
        rw [Sum.scan_short (b := []) (by decide)] at h1
        simpa using h1
      have Hsc2 := Lib.hid hsc2; clear hsc2
      have hfr : Sum.frames (datas (aa ++ bb)) = (u ++ v).data.toList := by
        rw [data_append, Hud.out, Hvd.out, ← HF.out, ← HG.out, datas_append, Sum.frames_append]
      obtain ⟨K, HK⟩ : ∃ K : List UInt8, Hid (K = (u ++ v).data.toList) := ⟨_, rfl⟩
      rw [← HK.out] at hfr
      have Hfr := Lib.hid hfr; clear hfr
      have heq : (K == (u ++ v).toList) = true := by rw [beq_iff_eq, ByteArray.toList_eq]; exact HK.out
      go_enter Try.func6, Try.ntmps6
      go_wp2_with fail
      refine (short4_any aa A c _ Hr.out hl Hs.out).mono ?_
      rintro e w1 ⟨rfl, hb1⟩
      rw [Hsh.out]
      have hz1' := hb1.size
      go_wp2_with fail
      refine (short4_any bb B d _ ((Hr'.out.below hb1).more hz1') hl' Hs'.out).mono ?_
      rintro e w2 ⟨rfl, hb2⟩
      rw [Hsk.out]
      have hbw2 := hb1.trans (hb2.mono hz1')
      have hz2' := hbw2.size
      clear hb1 hb2 hz1'
      go_wp2_with fail
      refine (frame_is aa A c _ rfl F HF.out _ ((Hr.out.below hbw2).more hz2') (by omega)).mono ?_
      rintro e w3 ⟨rfl, hb3⟩
      rw [Hu.out]
      have hbw3 := hbw2.trans (hb3.mono hz2')
      have hz3 := hbw3.size
      clear hbw2 hb3 hz2'
      go_wp2_with fail
      refine (frame_is bb B d _ rfl G HG.out _ ((Hr'.out.below hbw3).more hz3) (by omega)).mono ?_
      rintro e w4 ⟨rfl, hb4⟩
      rw [Hv.out]
      have hbw4 := hbw3.trans (hb4.mono hz3)
      have hz4 := hbw4.size
      clear hbw3 hb4 hz3
      go_wp2_with fail
      refine (scan_is (u ++ v) (datas (aa ++ bb)) (u.size + v.size) Hsc1.out _ (by rw [ByteArray.size_append']; omega)).mono ?_
      rintro e w5 ⟨A5, c5, rfl, hr5, hc5, hb5⟩
      have hbw5 := hbw4.trans (hb5.mono hz4)
      have hz5 := hbw5.size
      clear hbw4 hb5 hz4
      have hdl : (datas (aa ++ bb)).length = aa.length + bb.length := by rw [datas_length, List.length_append]
      rw [hdl] at hr5 hc5 ⊢
      clear hdl
      go_wp2_with fail
      refine (scan_is u (datas aa) u.size Hsc2.out _ (by omega)).mono ?_
      rintro e w6 ⟨A6, c6, rfl, hr6, _, hb6⟩
      have hz56 := hb6.size
      have hbw6 := hbw5.trans (hb6.mono hz5)
      have hz6 := hbw6.size
      have hr56 := (hr5.below hb6).more hz56
      clear hbw5 hb6 hr5
      have hdl : (datas aa).length = aa.length := datas_length aa
      rw [hdl] at hr6 ⊢
      clear hdl
      go_wp2_with fail
      refine (alive4_any _).mono ?_
      rintro e w7 ⟨rfl, hb7⟩
      have hz67 := hb7.size
      have hbw7 := hbw6.trans (hb7.mono hz6)
      have hz7 := hbw7.size
      have hr57 := (hr56.below hb7).more hz67
      have hr67 := (hr6.below hb7).more hz67
      clear hbw6 hb7 hr56 hr6
      have hra := (Hr.out.below hbw7).more hz7
      have hrb := (Hr'.out.below hbw7).more hz7
      have HH := Lib.hid (And.intro hr57 (And.intro hr67 hbw7))
      clear hr57 hr67
      go_wp2_with (first
        | (at_builtin
           refine wpList_append_guard _ (by rfl) (.const (.slice none 0 0)) (.tmp 38) _ rfl w7.heap.size 9 i0 _ 1 16 Try.underlying22 hi hz0 hz1 hz2 rfl (by omega) (.slice none 0 0) 0 [] rfl
             ⟨by simp, .inl ⟨rfl, rfl⟩⟩ w7.heap.size A aa.length c (strs aa) rfl hra (strs_one aa) (by simp only [maxLen]; omega) (by omega) (Nat.le_refl _) ?_
           intro v8 w8 hown8 hg8 hat8
           have hbw8 : Below w7.heap.size w7 w8 := (Below.refl _ _).grown hg8 (Nat.le_refl _) (by simp [Value.ownBlock]))
        | (at_builtin
           refine wpList_append_guard _ (by rfl) (.tmp 39) (.tmp 40) _ rfl w7.heap.size 9 i0 _ 1 16 Try.underlying22 hi hz0 hz1 hz2 rfl (by omega) v8 (0 + aa.length) ([] ++ strs aa) rfl
             hown8 w7.heap.size B bb.length d (strs bb) rfl (hrb.below hbw8) (strs_one bb) (by simp only [maxLen]; omega) (by omega) hbw8.size ?_
           intro v9 w9 hown9 hg9 hat9))
      have hbw9 : Below w7.heap.size w7 w9 := hbw8.grown hg9 hbw8.size (fun k hk => by
        rcases hat8 with e | e <;> rw [e] at hk <;> simp [Value.ownBlock] at hk
        omega)
      have hz9 := hbw9.size
      have hn : 0 + aa.length + bb.length = (aa ++ bb).length := by simp
      have hx : ([] ++ strs aa) ++ strs bb = strs (aa ++ bb) := by rw [List.nil_append, strs_append]
      rw [hn, hx] at hown9
      clear hn hx hown8 hg8 hat8 hbw8 hra hrb hg9 hat9
      have Hown := Lib.hid hown9
      obtain ⟨A9, c9, rfl, hc9⟩ := own_form hown9
      clear hown9
      have hnl : (aa ++ bb).length ≤ 200 := by rw [List.length_append]; omega
      refine (frame_is (aa ++ bb) A9 c9 _ rfl K Hfr.out _ (Reads.of_own Hown.out) (by rw [total_append]; omega)).mono ?_
      rintro e w10 ⟨rfl, hb10⟩
      have hbw10 : Below w7.heap.size w7 w10 := hbw9.trans (hb10.mono hz9)
      have hz10 := hbw10.size
      clear hb10 hbw9 Hown
      have b1 : (aa.length : Int) ≤ (c5 : Int) := by omega
      go_wp2_with fail
      refine (same_is (texts (datas aa)) aa A6 A c6 c _ _ w7.heap.size w7.heap.size (by rw [texts_length, datas_length]) rfl (texts_datas aa) _ (HH.out.2.1.below hbw10) (((Hr.out.below HH.out.2.2).more hz7).below hbw10) (by omega)).mono ?_
      rintro e w11 ⟨rfl, q11, rfl⟩
      go_wp2_with fail
      refine (same_is ((texts (datas (aa ++ bb))).take aa.length) aa A5 A c5 c _ _ w7.heap.size w7.heap.size (by rw [List.length_take, texts_length, datas_length, List.length_append]; omega) rfl (by rw [texts_datas, List.take_left']; rfl) _
        ((reads_take (HH.out.1.below hbw10) (by omega)).drewN q11) ((((Hr.out.below HH.out.2.2).more hz7).below hbw10).drewN q11) (by omega)).mono ?_
      rintro e w12 ⟨rfl, q12, rfl⟩
      go_wp2
      go_ret
      exact ⟨rfl, HH.out.2.2.trans (below_drewN (hbw10.mono hz7) (q11 + q12))⟩
end Go.Proofs.Ytfejelcjklmchaa
