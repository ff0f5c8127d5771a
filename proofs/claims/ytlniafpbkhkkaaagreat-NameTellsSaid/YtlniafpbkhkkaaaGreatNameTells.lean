/-
  The walk of NameTells: for all texts it returns true, and nothing that was there has turned.
  Conditions: texts within what a slice and a string may have.
-/
import Derived.Test.YtlniafpbkhkkaaaGreatNameShort
import Derived.Test.YtlniafpbkhkkaaaGreatName5b
import Derived.Test.YtlniafpbkhkkaaaGreatRcmp
import Derived.Test.YtlniafpbkhkkaaaGreatRsort
import Derived.Test.YtlniafpbkhkkaaaGreatLentT
import Derived.Test.YtlniafpbkhkkaaaGreatBk8
namespace Go.Proofs.YtlniafpbkhkkaaaGreat
open Go.RowKit
attribute [local go_sem ↓] Go.wp_at_zero Go.wp_at_succ
set_option maxRecDepth 100000

theorem same_self (ss : List ByteArray) (A A' : Option Addr) (c c' n B B' : Nat) (hn : ss.length = n) (w : World) (hr : Reads w B 1 A n (strs ss)) (hr' : Reads w B' 1 A' n (strs ss)) (hB : B ≤ w.heap.size) (hB' : B' ≤ w.heap.size) (hl : n ≤ 9223372036854775807) :
    Calls Tryz.prog 9 #[.slice A n c, .slice A' n c'] w fun e w' => e = .returned (.bool true) ∧ Below w.heap.size w w' := by
  subst hn
  have h := same_any ss ss A A' c c' w.heap.size w (hr.more hB) (hr'.more hB') hl hl
  rw [sameB_self'] at h
  refine h.mono ?_
  rintro e w' ⟨rfl, q, rfl⟩
  exact ⟨rfl, drewN_below (Below.refl _ _) q⟩
theorem lent_first {l : List ByteArray} {g n B : Nat} {w : World} (hn : l.length = n) (hr : Reads w B 1 (some ⟨g, 0, none⟩) (n + 1) (strs (l ++ [markS]))) : Reads w B 1 (some ⟨g, 0, none⟩) n (strs l) := by
  subst hn
  refine ⟨by simp [strs], fun _ => ?_⟩
  obtain ⟨ad, e, hb, hc⟩ := hr.2 (by omega)
  refine ⟨ad, e, hb, fun j u hu => hc j u ?_⟩
  have e2 : strs (l ++ [markS]) = strs l ++ [.string markS] := by simp [strs]
  rw [e2, List.getElem?_append_left (List.getElem?_eq_some_iff.1 hu).1]
  exact hu
theorem ntells_early (a b : ByteArray) (ss : List ByteArray) (A : Option Addr) (c : Nat) (w : World) (hr : Reads w w.heap.size 1 A ss.length (strs ss)) (hl : ss.length ≤ 9223372036854775807) (hs : ∀ s ∈ ss, s.size ≤ 9223372036854775807) (h : 3000 < a.size ∨ 3000 < b.size ∨ shortB 300 9000 ss = false) :
    Calls Tryz.prog 3 #[.string a, .string b, .slice A ss.length c] w fun e w' => e = .returned (.bool true) ∧ Below w.heap.size w w' := by
  have Hs := Lib.hid hs; have Hr := Lib.hid hr
  clear hs hr
  by_cases h1 : 3000 < a.size
  · clear h
    go_enter Tryz.func3, Tryz.ntmps3
    go_wp2_with fail
    refine (alive2_any _).mono ?_
    rintro e w2 ⟨rfl, hb2⟩
    go_wp2
    go_ret
    exact ⟨rfl, hb2⟩
  · by_cases h2 : 3000 < b.size
    · clear h
      go_enter Tryz.func3, Tryz.ntmps3
      go_wp2_with fail
      refine (alive2_any _).mono ?_
      rintro e w2 ⟨rfl, hb2⟩
      go_wp2
      go_ret
      exact ⟨rfl, hb2⟩
    · have h3 : shortB 300 9000 ss = false := by rcases h with h | h | h; exact absurd h h1; exact absurd h h2; exact h
      have Hsh := Lib.hid h3
      clear h h3
      go_enter Tryz.func3, Tryz.ntmps3
      go_wp2_with fail
      refine (short2_any ss A c _ Hr.out hl Hs.out).mono ?_
      rintro e w1 ⟨rfl, hb1⟩
      rw [Hsh.out]
      go_wp2_with fail
      refine (alive2_any _).mono ?_
      rintro e w2 ⟨rfl, hb2⟩
      go_wp2
      go_ret
      exact ⟨rfl, hb1.trans (hb2.mono hb1.size)⟩
set_option maxHeartbeats 8000000 in
theorem ntells_walk (a b : ByteArray) (ss : List ByteArray) (A : Option Addr) (c : Nat) (w : World) (hr : Reads w w.heap.size 1 A ss.length (strs ss)) (hl : ss.length ≤ 9223372036854775807) (hs : ∀ s ∈ ss, s.size ≤ 9223372036854775807) :
    Calls Tryz.prog 3 #[.string a, .string b, .slice A ss.length c] w fun e w' => e = .returned (.bool true) ∧ Below w.heap.size w w' := by
  by_cases hs6 : 3000 < a.size ∨ 3000 < b.size ∨ shortB 300 9000 ss = false
  · exact ntells_early a b ss A c w hr hl hs hs6
  have ha : a.size ≤ 3000 := by
    rcases Nat.lt_or_ge 3000 a.size with h | h
    · exact absurd (.inl h) hs6
    · exact h
  have hb : b.size ≤ 3000 := by
    rcases Nat.lt_or_ge 3000 b.size with h | h
    · exact absurd (.inr (.inl h)) hs6
    · exact h
  have hsh : shortB 300 9000 ss = true := by
    cases h : shortB 300 9000 ss
    · exact absurd (.inr (.inr h)) hs6
    · rfl
  clear hs6
  have hsh' := shortB_iff.1 hsh
  have htot := hsh'.2
  have hlen := hsh'.1
  have Hsh := Lib.hid hsh; have Hs := Lib.hid hs; have Hr := Lib.hid hr
  have HSZ : Hid (∀ s ∈ ss, s.size ≤ 281474976710656) := fun s h => by have := size_le_total h; omega
  clear hsh hsh' hs hr
  obtain ⟨n, hn⟩ : ∃ n, ss.length = n := ⟨_, rfl⟩
  have HN := Lib.hid hn
  rw [hn] at hl hlen ⊢
  have Hr' : Hid (Reads w w.heap.size 1 A n (strs ss)) := by show Reads _ _ _ _ _ _; rw [← hn]; exact Hr.out
  clear hn
  obtain ⟨T, HT⟩ : ∃ T, Hid (T = srt ss) := ⟨_, rfl⟩
  obtain ⟨m, HM⟩ : ∃ m, Hid (T.length = m) := ⟨_, rfl⟩
  have hm6 : m ≤ 300 := by have := srt_len ss; rw [← HT.out, HM.out, HN.out] at this; omega
  obtain ⟨va, HVA⟩ : ∃ v, Hid (validS a = v) := ⟨_, rfl⟩
  obtain ⟨cab, HCM⟩ : ∃ v, Hid (cmpS a b = v) := ⟨_, rfl⟩
  have Hlen : Hid (ss.length ≤ 9223372036854775807) := by show _ ≤ _; rw [HN.out]; exact hl
  have CS : Hid (∀ W, Reads W W.heap.size 1 A n (strs ss) → Calls Tryz.prog 5 #[.slice A n c] W fun e w' => e = .returned (.bool true) ∧ Below W.heap.size W w') := fun W h => by
    have := short2_any ss A c W (by rw [HN.out]; exact h) Hlen.out Hs.out
    rw [HN.out, Hsh.out] at this
    exact this
  have CL : Hid (∀ W, Reads W W.heap.size 1 A n (strs ss) → Calls Tryz.prog 7 #[.slice A n c] W fun e w' => ∃ g cap, e = .returned (.slice (some ⟨g, 0, none⟩) n cap) ∧ n + 1 ≤ cap ∧ cap ≤ 9223372036854775807 ∧ W.heap.size ≤ g ∧ g < w'.heap.size ∧ Reads w' w'.heap.size 1 (some ⟨g, 0, none⟩) (n + 1) (strs (ss ++ [markS])) ∧ Below W.heap.size W w') := fun W h => by
    have := lentT_any ss A c W (by rw [HN.out]; exact h) (by rw [HN.out]; omega)
    rw [HN.out] at this
    exact this
  have CC : Hid (∀ W g c', g < W.heap.size → Reads W W.heap.size 1 (some ⟨g, 0, none⟩) n (strs ss) → Calls Tryz.prog 8 #[.slice (some ⟨g, 0, none⟩) n c'] W fun e w' => ∃ A' cap, e = .returned (.slice A' m cap) ∧ w'.ownsRow W.heap.size 9 1 (.slice A' m cap) m (strs T) ∧ Below W.heap.size W w') := fun W g c' hg h => by
    have := sort_own ss (some ⟨g, 0, none⟩) c' W (by rw [HN.out]; omega) (by rw [HN.out]; exact h) (fun _ ad e => by injection e with e; subst e; exact hg) HSZ.out
    rw [HN.out, ← HT.out, HM.out] at this
    refine this.mono ?_
    rintro e w' ⟨v, rfl, ho, hb⟩
    obtain ⟨A', cap, rfl, _⟩ := own_form ho
    exact ⟨A', cap, rfl, ho, hb⟩
  have CR : Hid (∀ W, Reads W W.heap.size 1 A n (strs ss) → Calls Tryz.prog 10 #[.slice A n c] W fun e w' => ∃ A' cap, e = .returned (.slice A' m cap) ∧ w'.ownsRow W.heap.size 9 1 (.slice A' m cap) m (strs T) ∧ Below W.heap.size W w') := fun W h => by
    have := rsort_any ss A c W (by rw [HN.out]; exact h) (by rw [HN.out]; omega) (fun s hs => by have := HSZ.out s hs; omega)
    rw [HN.out, ← HT.out, HM.out] at this
    exact this
  have CT : Hid (∀ W g cap, n + 1 ≤ cap → Reads W W.heap.size 1 (some ⟨g, 0, none⟩) (n + 1) (strs (ss ++ [markS])) → Reads W W.heap.size 1 A n (strs ss) → cap ≤ 9223372036854775807 → Calls Tryz.prog 11 #[.slice (some ⟨g, 0, none⟩) n cap, .slice A n c] W fun e w' => e = .returned (.bool true) ∧ Below W.heap.size W w') := fun W g cap h1 h2 h3 h4 => by
    have := staysT_any ss g cap A c W (by rw [HN.out]; exact h1) (by rw [HN.out]; exact h2) (by rw [HN.out]; exact h3) (by rw [HN.out]; omega) h4
    rw [HN.out] at this
    exact this.mono fun e w' ⟨he, q, hq⟩ => ⟨he, by rw [hq]; exact drewN_below (Below.refl _ _) q⟩
  have V1 : Hid (∀ W, Calls Tryz.prog 13 #[.string a] W fun e w' => e = .returned (.bool va) ∧ W = w') := fun W => by rw [← HVA.out]; exact valid_any a W
  have V2 : Hid (∀ W, Calls Tryz.prog 14 #[.string a] W fun e w' => e = .returned (.bool va) ∧ W = w') := fun W => by rw [← HVA.out]; exact rvalid_any a (by omega) W
  have M1 : Hid (∀ W, Calls Tryz.prog 15 #[.string a, .string b] W fun e w' => e = .returned (.int .i64 cab) ∧ W = w') := fun W => by rw [← HCM.out]; exact compare_any a b W
  have M2 : Hid (∀ W, Calls Tryz.prog 16 #[.string a, .string b] W fun e w' => e = .returned (.int .i64 cab) ∧ Below W.heap.size W w') := fun W => by rw [← HCM.out]; exact (rcompare_any a b (by omega) (by omega) W).mono fun e w' ⟨he, q, hq⟩ => ⟨he, by rw [hq]; exact drewN_below (Below.refl _ _) q⟩
  go_enter Tryz.func3, Tryz.ntmps3
  go_wp2_with fail
  refine (CS.out w Hr'.out).mono ?_
  rintro e w1 ⟨rfl, hb1⟩
  have hz1 := hb1.size
  have HK0 := Lib.hid (bk_new w1)
  have HB2 : Hid (Below w.heap.size w (w1.alloc (.cells (bkCells (.slice none 0 0) (.slice none 0 0)) 44))) := hb1.alloc hz1 _
  clear hb1
  go_wp2
  go_loopw [8] (fun i wr => ∃ (k : Nat) (tv wv : Value) (L : List TRow), k ≤ 2 ∧ i = .int .i64 k ∧ L.length = k ∧ Hid (BkAt w1.heap.size tv wv L wr) ∧ Hid (∀ r ∈ L, r.mm = r.ss ∧ r.ss.length ≤ 10000000) ∧ Hid (∀ q ∈ bkBlocks w1.heap.size tv wv L, w1.heap.size ≤ q) ∧ Hid (Below w.heap.size w wr)) (fun i _ => 2 - (intOf i).toNat)
  case atStart => exact ⟨0, _, _, [], by omega, rfl, rfl, HK0.out, by intro r hr; simp at hr, fun q hq => by simp [bkBlocks, rowBlocks, Value.ownBlock] at hq; omega, HB2.out⟩
  case round =>
    clear HK0 HB2
    obtain ⟨k, tv, wv, L, hk, rfl, hL, HK, HC, HBL, HB⟩ := hrel
    have hzr := HB.out.size
    have hgw : w1.heap.size < wr.heap.size := HK.out.there _ (mem_bk.2 (.inl rfl))
    by_cases hlt : k < 2
    · go_wp2_with fail
      refine (CL.out wr (Hr'.out.below HB.out |>.more hzr)).mono ?_
      rintro e w3 ⟨gm, cm, rfl, hcm, hcm2, hgm, hgm3, hrm, hb3⟩
      have hz3 := hb3.size
      go_wp2_with fail
      refine (CC.out w3 gm cm hgm3 (lent_first HN.out hrm)).mono ?_
      rintro e w4 ⟨Ay, cy, rfl, hy, hb4⟩
      have hz4 := hb4.size
      have HB4 : Hid (Below w.heap.size w w4) := HB.out.trans ((hb3.mono hzr).trans (hb4.mono (by omega)))
      have hbr4 : Below wr.heap.size wr w4 := hb3.trans (hb4.mono hz3)
      have HRL : Hid (Reads w4 w4.heap.size 1 A n (strs ss)) := (Hr'.out.below HB4.out).more (by omega)
      have HRM : Hid (Reads w4 w4.heap.size 1 (some ⟨gm, 0, none⟩) (n + 1) (strs (ss ++ [markS]))) := (hrm.below hb4).more (by omega)
      have HK4 := Lib.hid (HK.out.below hbr4)
      have HYL : Hid (∀ q, (Value.slice Ay m cy).ownBlock = some q → wr.heap.size ≤ q) := fun q hq => by have := (hy.lt q hq).1; omega
      have HY4 := Lib.hid (own_base0 hy)
      clear hb3 hb4 hrm hy HB hbr4
      go_wp2_with fail
      refine (CR.out w4 HRL.out).mono ?_
      rintro e w6 ⟨Az, cz, rfl, hz, hb6⟩
      have hz6 := hb6.size
      have HB6 : Hid (Below w4.heap.size w4 w6) := hb6
      have HZ6 := Lib.hid (Reads.of_own hz)
      clear hb6 hz
      go_wp2_with fail
      refine (same_self T Ay Az cy cz m w4.heap.size w6.heap.size HM.out w6 ((Reads.of_own HY4.out).below HB6.out) HZ6.out hz6 (Nat.le_refl _) (by omega)).mono ?_
      rintro e w7 ⟨rfl, hb7⟩
      have hz7 := hb7.size
      have HB7 : Hid (Below w4.heap.size w4 w7) := HB6.out.trans (hb7.mono (by omega))
      clear hb7 HB6
      go_wp2_with fail
      refine (CT.out w7 gm cm hcm ((HRM.out.below HB7.out).more (by omega)) ((HRL.out.below HB7.out).more (by omega)) hcm2).mono ?_
      rintro e w8 ⟨rfl, hb8⟩
      have hz8 := hb8.size
      have HB8 : Hid (Below w4.heap.size w4 w8) := HB7.out.trans (hb8.mono (by omega))
      clear hb8 HB7
      have HK8 := Lib.hid (HK4.out.below HB8.out)
      have HY8 := Lib.hid (own_below HY4.out HB8.out (fun q hq => (HY4.out.lt q hq).2))
      have hyb : ∀ q, (Value.slice Ay m cy).ownBlock = some q → q ∉ bkBlocks w1.heap.size tv wv L := fun q hq e => by
        have h1 := HYL.out q hq
        have h2 := HK.out.there q e
        omega
      have HT9 : Hid (Calls Tryz.prog 12 #[.pointer (some ⟨w1.heap.size, 0, none⟩), .slice Ay m cy] w8 fun e w' => e = .returned (.tuple #[]) ∧ ∃ tv' wv' mv, BkAt w1.heap.size tv' wv' (L ++ [⟨.slice Ay m cy, T, mv, T⟩]) w' ∧ Mv ((Value.slice Ay m cy).ownBlock.toList ++ bkBlocks w1.heap.size tv wv L) (bkBlocks w1.heap.size tv' wv' (L ++ [⟨.slice Ay m cy, T, mv, T⟩])) w8 w') :=
        by
          have := texts_add w1.heap.size tv wv L w8 HK8.out (by omega) (.slice Ay m cy) T (by rw [HM.out]; exact HY8.out) (by rw [HM.out]; omega) hyb
          exact this
      clear hyb
      go_wp2_with fail
      refine HT9.out.mono ?_
      rintro e w9 ⟨rfl, tv', wv', mv, hk9, hm9⟩
      have HK9 := Lib.hid hk9; have HM9 := Lib.hid hm9
      have hz9 := hm9.size
      clear hk9 hm9 HT9
      go_wp2
      go_roundw
      case rel =>
        refine ⟨k + 1, tv', wv', _, hlt, by go_num, by simp [hL], HK9.out, ?_, ?_, ?_⟩
        · intro r hr
          rcases List.mem_append.1 hr with hr | hr
          · exact HC.out r hr
          · obtain rfl := List.mem_singleton.1 hr
            exact ⟨rfl, by show T.length ≤ _; rw [HM.out]; omega⟩
        · intro q hq
          rcases HM9.out.link q hq with h | h
          · rcases List.mem_append.1 h with h | h
            · have := HYL.out q (by simpa using h); omega
            · exact HBL.out q h
          · omega
        · refine HB4.out.trans ?_
          refine (HB8.out.mono (by omega)).trans ?_
          exact HM9.out.below (fun q hq => by
            rcases List.mem_append.1 hq with h | h
            · have := HYL.out q (by simpa using h); omega
            · have := HBL.out q h; omega) (by omega)
      case measure => simp [intOf]; omega
    · have hk2 : k = 2 := by omega
      go_wp2_with fail
      refine (alive2_any _).mono ?_
      rintro e w3 ⟨rfl, hb3⟩
      have hz3 := hb3.size
      have HB3 := Lib.hid hb3
      clear hb3
      go_wp2_with fail
      refine (V1.out w3).mono ?_
      rintro e w' ⟨rfl, rfl⟩
      go_wp2_with fail
      refine (V2.out w3).mono ?_
      rintro e w' ⟨rfl, rfl⟩
      go_wp2_with fail
      refine (M1.out w3).mono ?_
      rintro e w' ⟨rfl, rfl⟩
      go_wp2_with fail
      refine (M2.out w3).mono ?_
      rintro e w5 ⟨rfl, hb5⟩
      have hz5 := hb5.size
      have HB5 : Hid (Below wr.heap.size wr w5) := HB3.out.trans (hb5.mono hz3)
      clear hb5 HB3
      go_wp2_with fail
      refine (apart_any w1.heap.size tv wv L w5 (HK.out.below HB5.out) (fun r hr => (HC.out r hr).1) (fun r hr => (HC.out r hr).2)).mono ?_
      rintro e w4 ⟨rfl, hm4⟩
      have HM4 := Lib.hid hm4
      clear hm4
      go_wp2
      go_ret
      exact ⟨rfl, (HB.out.trans (HB5.out.mono hzr)).trans (HM4.out.below (fun q hq => by have := HBL.out q hq; omega) (by omega))⟩
end Go.Proofs.YtlniafpbkhkkaaaGreat
