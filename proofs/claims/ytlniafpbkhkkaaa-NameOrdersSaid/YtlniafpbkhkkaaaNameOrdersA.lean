/-
  NameOrders, a list with room.
  Conditions: the theorem's own.
-/
import Derived.Test.YtlniafpbkhkkaaaNameOrders
namespace Go.Proofs.Ytlniafpbkhkkaaa
open Go.RowKit Go.Maps Go.Sort

set_option maxHeartbeats 4000000 in
set_option maxRecDepth 100000 in
/-- NameOrders where the list may be parted behind some text, or has room. -/
theorem norders_more (a b c : ByteArray) (l : List ByteArray) (A : Option Addr) (n cp k : Nat) (w : World) (hn : l.length = n) (hr : Reads w w.heap.size 1 A n (strs l)) (hcp : n ≤ cp) (ha : a.size ≤ 3000) (hb : b.size ≤ 3000) (hc : c.size ≤ 3000)
    (hsh : shortB 300 9000 l = true) (hk0 : (n : Int) / 2 = (k : Int)) (hck : ¬ cp = k) :
    Calls Try.prog 3 #[.string a, .string b, .string c, .slice A n cp] w fun e w' => e = .returned (.bool true) ∧ Below w.heap.size w w' := by
  obtain ⟨hl3, hs9⟩ := short_yes hsh
  obtain ⟨i0, hi, hz0, hz1, hz2⟩ := info_parts info_str1
  have h1 := short2_any l A cp w (by rw [hn]; exact hr) (by omega) (fun s h => by have := hs9 s h; omega)
  rw [hsh, hn] at h1
  rw [hn] at hl3
  have hs8 : ∀ s ∈ l, s.size ≤ 281474976710656 := fun s h => by have := hs9 s h; omega
  have hle := fun h k => cmp_trans (a := a) (b := b) (c := c) h k
  have hge := fun h k => cmp_trans2 (a := a) (b := b) (c := c) h k
  have hzr : -1 ≤ cmpS a c ∧ cmpS a c ≤ 1 := by rcases cmp_cases a c with ⟨h, _⟩ | ⟨h, _⟩ | ⟨h, _⟩ <;> omega
  have hxr : cmpS a b = -1 ∨ cmpS a b = 0 ∨ cmpS a b = 1 := by rcases cmp_cases a b with ⟨h, _⟩ | ⟨h, _⟩ | ⟨h, _⟩ <;> omega
  have hyr : cmpS b c = -1 ∨ cmpS b c = 0 ∨ cmpS b c = 1 := by rcases cmp_cases b c with ⟨h, _⟩ | ⟨h, _⟩ | ⟨h, _⟩ <;> omega
  have hba := cmp_swap a b
  have hab : (a.toList == b.toList) = decide (cmpS a b = 0) := by
    cases h : (a.toList == b.toList)
    · symm
      rw [decide_eq_false]
      intro h0
      rw [(bytes_eq_iff (s := a) (t := b)).2 ((cmp_zero a b).1 h0)] at h
      cases h
    · rw [decide_eq_true ((cmp_zero a b).2 (bytes_eq_iff.1 h))]
  have C1 := compare_any a b; have C2 := compare_any b c; have C3 := compare_any a c; have C4 := compare_any b a
  rw [hba] at C4
  obtain ⟨z, hz⟩ : ∃ z, cmpS a c = z := ⟨_, rfl⟩
  rw [hz] at C3 hzr
  have D3 := fun w => Lib.hid (C3 w)
  have H1 := Lib.hid h1
  have HR := Lib.hid hr
  have HN := Lib.hid hn
  have HS8 := Lib.hid hs8
  clear h1 hr hs8 hs9 C3 hba hsh hn
  rcases hxr with hx | hx | hx <;> rcases hyr with hy | hy | hy
  all_goals
    rw [hx] at C1 C4 hab
    rw [hy] at C2
    have D1 := fun w => Lib.hid (C1 w); have D2 := fun w => Lib.hid (C2 w); have D4 := fun w => Lib.hid (C4 w)
    first
      | (have hab2 : (a.toList == b.toList) = false := hab.trans (by decide))
      | (have hab2 : (a.toList == b.toList) = true := hab.trans (by decide))
    first
      | (have hzn : z ≤ 0 := by rw [← hz]; exact hle (by omega) (by omega))
      | skip
    first
      | (have hzp : 0 ≤ z := by rw [← hz]; exact hge (by omega) (by omega))
      | skip
    clear hle hge hz hab C1 C2 C4 hx hy
    go_enter Try.func3, Try.ntmps3
    go_wp2_with fail
    refine H1.out.mono ?_
    rintro e w1 ⟨rfl, hb1⟩
    have HB1 := Lib.hid hb1
    clear hb1 H1
    go_wp2_with fail
    refine (D1 _).out.mono ?_
    rintro e w1' ⟨rfl, rfl⟩
    go_wp2_with fail
    refine (D2 _).out.mono ?_
    rintro e w1' ⟨rfl, rfl⟩
    go_wp2_with fail
    refine (D3 _).out.mono ?_
    rintro e w1' ⟨rfl, rfl⟩
    go_wp2_with fail
    refine (D4 _).out.mono ?_
    rintro e w1' ⟨rfl, rfl⟩
    have hlw1 := HB1.out.size
    have S1 := sort_at l n HN.out A cp w1 (by omega) ((HR.out.below HB1.out).more hlw1) HS8.out
    go_wp2_with fail
    refine S1.mono ?_
    rintro e w2 ⟨v, rfl, ho, hb2⟩
    have HO := Lib.hid ho
    have HB2 := Lib.hid (HB1.out.trans (hb2.mono hlw1))
    have hlw2 := HB2.out.size
    clear ho hb2 S1
    obtain ⟨Av, cv, rfl, hrv, hAv⟩ := reads_ownedT HO.out
    have HRv := Lib.hid hrv
    clear hrv hAv
    have hk : (n : Int) / 2 = (k : Int) := hk0
    have q1 : (k : Int) ≤ (cp : Int) := by omega
    have q2 : (k : Int) ≤ (n : Int) := by omega
    have q3 : (0 : Int) ≤ (k : Int) := by omega
    have HR2 := Lib.hid ((HR.out.below HB2.out).more hlw2)
    have hln := HN.out
    have SA := sort_at (l.take k) k (by rw [List.length_take]; omega) A cp w2.drew (by omega) (reads_take HR2.out (by omega)) (fun s h => HS8.out s (List.mem_of_mem_take h))
    have hlt := srt_len (l.take k)
    have hld := srt_len (l.drop k)
    rw [List.length_take] at hlt
    rw [List.length_drop] at hld
    have hmt : ∀ s ∈ srt (l.take k) ++ srt (l.drop k), s.size ≤ 281474976710656 := by
      intro s h
      rw [List.mem_append, mem_srt, mem_srt] at h
      exact HS8.out s (h.elim List.mem_of_mem_take List.mem_of_mem_drop)
    have HMT := Lib.hid hmt
    clear hmt
    go_wp2
    go_region_held3 (fun _ => True) (trivial) (first
      | (go_at_call 11; (with_reducible refine SC.mono ?_); rintro e w6 ⟨v6, rfl, ho6, hb6⟩)
      | (go_at_call 11; (with_reducible refine SB.mono ?_); rintro e w4 ⟨v2, rfl, ho2, hb4⟩; obtain ⟨A2, c2, rfl, hr2, hA2⟩ := reads_ownedT ho2; have ho1' := ownsRow_keepN ho1 (fun g hg => hb4.block g (ho1.lt g hg).2))
      | (go_at_call 11; (with_reducible refine SA.mono ?_); rintro e w3 ⟨v1, rfl, ho1, hb3'⟩; have hb3 : Below w2.heap.size w2 w3 := (Below.refl w2.heap.size w2).drew.trans (show Below w2.heap.size w2.drew w3 from hb3'); have hz3 := hb3.size; have SB := sort_at (l.drop k) (n - k) (by rw [List.length_drop]; omega) (A.map fun x => x.add k) (cp - k) w3 (by omega) (reads_drop (k := k) ((HR2.out.below hb3).more hb3.size) (by omega)) (fun s h => HS8.out s (List.mem_of_mem_drop h)))
      | (refine step_append_any _ rfl _ _ 22 rfl w2.heap.size 9 i0 (.string ⟨#[]⟩) 1 16 Try.underlying22 hi hz0 hz1 hz2 rfl (by decide) v1 _ _ rfl ho1' w4.heap.size A2 _ c2 _ rfl hr2 (strs_one _) (by unfold maxLen; omega) (by omega) (show w2.heap.size ≤ w4.heap.size by have := hb4.size; omega) ?_; intro v5 w5 ho5 hg5 _; obtain ⟨A5, c5, rfl, hr5, hA5⟩ := reads_ownedT ho5; rw [strs_app] at hr5; have SC := sort_at (srt (l.take k) ++ srt (l.drop k)) ((srt (l.take k)).length + (srt (l.drop k)).length) (by rw [List.length_append]) A5 c5 w5 (by omega) hr5 HMT.out))
    have hz2 := hb3.size; have hz3' := hb4.size; have hz4 := hg5.size; have hz5 := hb6.size
    have hkeep : ∀ j, j < w2.heap.size → w6.heap[j]? = w2.heap[j]? := fun j hj => by
      rw [hb6.block j (by omega), hg5.block j (by omega) (fun e => by have := (ho1.lt j e.symm).1; have e2 : w2.drew.heap.size = w2.heap.size := rfl; omega), hb4.block j (by omega), hb3.block j hj]
    have hbw : Below w2.heap.size w2 w6 := ((hb3.trans (hb4.mono (by omega))).trans ⟨hg5.os, hg5.tape, hg5.output, hg5.size, fun j hj => hg5.block j (by omega) (fun e => by have := (ho1.lt j e.symm).1; have e2 : w2.drew.heap.size = w2.heap.size := rfl; omega)⟩).trans (hb6.mono (by omega))
    rw [srt_parts] at ho6
    obtain ⟨A6, c6, rfl, hr6, hA6⟩ := reads_ownedT ho6
    have HR6 := Lib.hid hr6
    have HRv6 := Lib.hid ((HRv.out.below hbw).more hbw.size)
    have HB6 := Lib.hid (HB2.out.trans (hbw.mono hlw2))
    have hls := srt_len l
    rw [hln] at hls
    clear hb3 hb3' hb4 hg5 hb6 ho1 ho1' ho2 ho5 ho6 hr6 hA6 hA5 hr5 hA2 hr2 hkeep hbw SA SB SC HRv HO HB2 hz2 hz3' hz4 hz5 hz3
    go_wp2_with fail
    refine (alive2_any w6).mono ?_
    rintro e w7 ⟨rfl, hb7⟩
    have HR7 := Lib.hid ((HR6.out.below hb7).more hb7.size)
    have HRv7 := Lib.hid ((HRv6.out.below hb7).more hb7.size)
    have HB7 := Lib.hid (HB6.out.trans (hb7.mono HB6.out.size))
    clear hb7 HR6 HRv6
    have hsm := same_any (srt l) (srt l) Av A6 cv c6 w7.heap.size w7 HRv7.out HR7.out (by omega) (by omega)
    rw [sameB_self] at hsm
    have HSM := Lib.hid hsm
    clear hsm
    go_wp2_with fail
    refine HSM.out.mono ?_
    rintro e w8 ⟨rfl, q8, rfl⟩
    have SD := sort_at (srt l) _ rfl Av cv (w7.drewN q8) (by omega) HRv7.out (fun s h => HS8.out s ((mem_srt l s).1 h))
    go_wp2_with fail
    refine SD.mono ?_
    rintro e w9 ⟨v9, rfl, ho9, hb9⟩
    rw [srt_srt] at ho9
    obtain ⟨A9, c9, rfl, hr9, hA9⟩ := reads_ownedT ho9
    have HR9 := Lib.hid hr9
    have HRv9 := Lib.hid (((show Reads (w7.drewN q8) (w7.drewN q8).heap.size 1 Av _ _ from HRv7.out).below hb9).more hb9.size)
    have HB9 := Lib.hid ((drewN_below HB7.out q8).trans (hb9.mono (drewN_below HB7.out q8).size))
    clear hb9 hr9 hA9 ho9 SD HSM
    have hsm := same_any (srt l) (srt l) Av A9 cv c9 w9.heap.size w9 HRv9.out HR9.out (by omega) (by omega)
    rw [sameB_self] at hsm
    have HSM := Lib.hid hsm
    clear hsm
    go_wp2_with fail
    refine HSM.out.mono ?_
    rintro e w10 ⟨rfl, q10, rfl⟩
    go_wp2
    go_ret
    exact ⟨rfl, drewN_below HB9.out q10⟩
end Go.Proofs.Ytlniafpbkhkkaaa
