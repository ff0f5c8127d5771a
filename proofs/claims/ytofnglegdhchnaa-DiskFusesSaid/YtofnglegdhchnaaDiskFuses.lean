/-
  DiskFuses: the power fails at just the operation that was asked; what came ahead of it was done.
  Conditions: an int.
-/
import Derived.Test.YtofnglegdhchnaaDiskMany
namespace Go.Proofs.Ytofnglegdhchnaa
open Go.RowKit Go.Maps Go.Sort

/-- A disk with a fuse, behind k operations of n. -/
def fuK (n k : Nat) : Dk := ⟨true, true, (n : Int) - k, k, fsK k⟩
/-- .. behind the last one. -/
def fuEnd (n : Nat) : Dk := ⟨false, false, 0, (n : Int) + 1, fsK n⟩
theorem fuK_ok {n k : Nat} (hn : n ≤ 39) (hk : k ≤ n) : (fuK n k).Ok := by
  obtain ⟨h1, h2, h3, _⟩ := fsK_all (k := k) (by omega)
  exact ⟨h1, by show (0 : Int) ≤ k; omega, by show (k : Int) ≤ _; omega, by show _ ≤ (n : Int) - k; omega, by show (n : Int) - k ≤ _; omega, by show Maps.size (fsK k) ≤ _; omega, by show totF (fsK k) ≤ _; omega⟩
theorem fuEnd_ok {n : Nat} (hn : n ≤ 39) : (fuEnd n).Ok := by
  obtain ⟨h1, h2, h3, _⟩ := fsK_all (k := n) (by omega)
  exact ⟨h1, by show (0 : Int) ≤ (n : Int) + 1; omega, by show (n : Int) + 1 ≤ _; omega, by show (-9223372036854775808 : Int) ≤ 0; decide, by show (0 : Int) ≤ 9223372036854775807; decide, by show Maps.size (fsK n) ≤ _; omega, by show totF (fsK n) ≤ _; omega⟩
theorem fu_start (n : Nat) : fuseD newDk n = fuK n 0 := by
  unfold fuseD newDk fuK
  show Dk.mk true (decide ((0 : Int) ≤ (n : Int))) (n : Int) 0 (.map []) = Dk.mk true true ((n : Int) - (0 : Nat)) (0 : Nat) (.map [])
  rw [decide_eq_true (show (0 : Int) ≤ (n : Int) by omega), show ((n : Int) - (0 : Nat)) = n by omega]
  rfl
theorem opD_fu {n k : Nat} (h : k < n) (hn : n ≤ 39) : opD (fuK n k) = (⟨true, true, (n : Int) - (k + 1 : Nat), (k + 1 : Nat), fsK k⟩, false) := by
  unfold opD
  rw [if_pos (show (fuK n k).fused = true from rfl), if_pos (show 0 < (fuK n k).left by show 0 < (n : Int) - k; omega)]
  show (Dk.mk true true ((n : Int) - k - 1) (min ((k : Int) + 1) 4611686018427387904) (fsK k), false) = _
  rw [show ((n : Int) - k - 1) = (n : Int) - (k + 1 : Nat) by omega, show min ((k : Int) + 1) 4611686018427387904 = (k + 1 : Nat) by omega]
theorem opD_fuEnd {n : Nat} (hn : n ≤ 39) : opD (fuK n n) = (fuEnd n, true) := by
  unfold opD
  rw [if_pos (show (fuK n n).fused = true from rfl), if_neg (show ¬ 0 < (fuK n n).left by show ¬ 0 < (n : Int) - n; omega)]
  show (Dk.mk false false ((n : Int) - n) (min ((n : Int) + 1) 4611686018427387904) (fsK n), true) = (Dk.mk false false 0 ((n : Int) + 1) (fsK n), true)
  rw [show ((n : Int) - n) = 0 by omega, show min ((n : Int) + 1) 4611686018427387904 = (n : Int) + 1 by omega]
theorem create_fu {n k : Nat} (h : k < n) (hn : n ≤ 39) : createD (fuK n k) (nameI k) = (0, fuK n (k + 1)) := by
  obtain ⟨h1, h2, h3, _⟩ := fsK_all (k := k) (by omega)
  unfold createD doD
  rw [if_pos (show (fuK n k).on = true from rfl), opD_fu h hn, if_neg (show ¬ (false = true) by decide)]
  have e : createW (⟨true, true, (n : Int) - (k + 1 : Nat), (k + 1 : Nat), fsK k⟩ : Dk) (nameI k) = 0 := by
    unfold createW
    rw [if_pos (nameI_valid k), if_neg (by show ¬ hasS (fsK k) (nameI k) = true; rw [fsK_new (by omega) (by omega) (Nat.le_refl k)]; decide), if_neg (by show ¬ 40 ≤ Maps.size (fsK k); omega)]
  rw [if_pos e]
  rfl
theorem create_fuEnd {n : Nat} (hn : n ≤ 39) (s : ByteArray) : createD (fuK n n) s = (14, fuEnd n) := by
  unfold createD doD
  rw [if_pos (show (fuK n n).on = true from rfl), opD_fuEnd hn, if_pos rfl]
theorem sync_fuEnd (n : Nat) (s : ByteArray) : syncD (fuEnd n) s = (14, fuEnd n) := by
  unfold syncD doD
  rw [if_neg (show ¬ ((fuEnd n).on = true) from (by decide : ¬ (false = true)))]

set_option maxHeartbeats 4000000 in
set_option maxRecDepth 100000 in
theorem dfuses_walk (x : Int) (hx1 : -9223372036854775808 ≤ x) (hx2 : x ≤ 9223372036854775807) (w : World) :
    Calls Try.prog 5 #[.int .i64 x] w fun e w' => e = .returned (.bool true) ∧ Below w.heap.size w w' := by
  by_cases hl1 : x < 0
  · go_enter Try.func5, Try.ntmps5
    go_wp2_with fail
    refine (alive5_any _).mono ?_
    rintro e w2 ⟨rfl, hb2⟩
    have HB2 := Lib.hid hb2
    clear hb2
    go_wp2
    go_ret
    exact ⟨rfl, HB2.out⟩
  by_cases hl2 : 39 < x
  · go_enter Try.func5, Try.ntmps5
    go_wp2_with fail
    refine (alive5_any _).mono ?_
    rintro e w2 ⟨rfl, hb2⟩
    have HB2 := Lib.hid hb2
    clear hb2
    go_wp2
    go_ret
    exact ⟨rfl, HB2.out⟩
  obtain ⟨n, rfl⟩ : ∃ n : Nat, x = n := ⟨x.toNat, by omega⟩
  have hn : n ≤ 39 := by omega
  clear hl1 hl2 hx1 hx2
  have i0 : ¬ (n : Int) < 0 := by omega
  have i1 : ¬ (39 : Int) < (n : Int) := by omega
  have R1 := fun (c b : Nat) w (h : DkAt c b newDk w) => fuse_any c b _ (n : Int) w h
  rw [fu_start] at R1
  have RC := fun (k : Nat) (hk : k < n) (c b : Nat) w (h : DkAt c b (fuK n k) w) => create_any c b _ (fuK_ok hn (Nat.le_of_lt hk)) (nameI k) (nameI_size k) w h
  have RC' : ∀ (k : Nat) (hk : k < n) (c b : Nat) w (h : DkAt c b (fuK n k) w), Calls Try.prog 11 #[.pointer (some ⟨c, 0, none⟩), .string (nameI k)] w fun e w' => e = .returned (.int .i64 0) ∧ DkAt c b (fuK n (k + 1)) w' ∧ Mv [c, b] [c, b] w w' := by
    intro k hk c b w h
    have h1 := RC k hk c b w h
    rw [create_fu hk hn] at h1
    exact h1
  have RE := fun (c b : Nat) w (h : DkAt c b (fuK n n) w) => create_any c b _ (fuK_ok hn (Nat.le_refl n)) (nameI n) (nameI_size n) w h
  rw [create_fuEnd hn] at RE
  have RF := fun (c b : Nat) w (h : DkAt c b (fuEnd n) w) => files_any c b _ (fuEnd_ok hn) w h
  have el : (lstS (fuEnd n).fs).length = n := by rw [lstS_len (fuEnd_ok hn).good.keys]; exact (fsK_all (k := n) (by omega)).2.1
  simp only [el] at RF
  have RS := fun (c b : Nat) w (h : DkAt c b (fuEnd n) w) => sync_any c b _ (fuEnd_ok hn) ⟨#[102, 48]⟩ (by decide) w h
  rw [sync_fuEnd] at RS
  have hcv := fun k hk W => conv_name k hk W
  have Q1 := fun c b w h => Lib.hid (R1 c b w h); have QC := fun k hk c b w h => Lib.hid (RC' k hk c b w h); have QE := fun c b w h => Lib.hid (RE c b w h); have QF := fun c b w h => Lib.hid (RF c b w h); have QS := fun c b w h => Lib.hid (RS c b w h)
  have QV := Lib.hid hcv
  clear R1 RC RC' RE RF RS el hcv
  go_enter Try.func5, Try.ntmps5
  go_wp2_with fail
  refine (new_any _).mono ?_
  rintro e w1 ⟨c, b, rfl, h1, hc, hb, hb1⟩
  have HB1 := Lib.hid hb1
  have q1 := Q1 c b w1 h1
  clear hb1 h1
  go_wp2_with fail
  refine q1.out.mono ?_
  rintro e w2 ⟨rfl, h2, hm2⟩
  have HB2 := Lib.hid (Dk.there1 hc HB1.out hm2)
  have HK2 := Lib.hid h2
  clear h2 hm2
  go_wp2
  go_loopw [4, 5] (fun d i wr => ∃ k : Nat, k ≤ n ∧ d = .int .i64 k ∧ ((i = .int .i64 k ∧ Hid (DkAt c b (fuK n k) wr)) ∨ (i = .int .i64 ((k : Int) + 1) ∧ k = n ∧ Hid (DkAt c b (fuEnd n) wr))) ∧ Hid (Below w.heap.size w wr)) (fun _ i _ => 41 - (intOf i).toNat)
  case atStart => exact ⟨0, Nat.zero_le _, rfl, .inl ⟨rfl, HK2.out⟩, HB2.out⟩
  case round =>
    obtain ⟨k, hk, rfl, ⟨rfl, HK⟩ | ⟨rfl, rfl, HK⟩, HB⟩ := hrel
    · have hon : Calls Try.prog 19 #[.pointer (some ⟨c, 0, none⟩)] wr fun e w' => e = .returned (.bool true) ∧ wr = w' := on_any c b _ wr HK.out
      have h40 : (k : Int) < 40 := by omega
      have hcv := QV.out k (by omega) wr
      have hlc := HK.out.lt
      have hlb := HK.out.ltb
      have hkn : k < n ∨ k = n := by omega
      rcases hkn with hlt | rfl
      · have q4 := QC k hlt c b _ (HK.out.alloc (.cells #[.int .u8 102, .int .u8 (48 + (k : Int))] 5))
        clear HK
        go_wp2_with fail
        refine hon.mono ?_
        rintro e w3 ⟨rfl, rfl⟩
        clear hon
        go_wp2_with fail
        refine q4.out.mono ?_
        rintro e w4 ⟨rfl, h4, hm4⟩
        have HK4 := Lib.hid h4
        have HB4 := Lib.hid (Dk.there hc hb (HB.out.alloc HB.out.size _) hm4)
        clear h4 hm4 hcv q4 HB
        go_wp2
        go_roundw
        case rel => exact ⟨k + 1, hlt, by go_num, .inl ⟨by go_num, HK4.out⟩, HB4.out⟩
        case measure => simp [intOf]; omega
      · have q4 := QE c b _ (HK.out.alloc (.cells #[.int .u8 102, .int .u8 (48 + (k : Int))] 5))
        clear HK
        go_wp2_with fail
        refine hon.mono ?_
        rintro e w3 ⟨rfl, rfl⟩
        clear hon
        go_wp2_with fail
        refine q4.out.mono ?_
        rintro e w4 ⟨rfl, h4, hm4⟩
        have HK4 := Lib.hid h4
        have HB4 := Lib.hid (Dk.there hc hb (HB.out.alloc HB.out.size _) hm4)
        clear h4 hm4 hcv q4 HB
        go_wp2
        go_roundw
        case rel => exact ⟨k, Nat.le_refl _, rfl, .inr ⟨by go_num, rfl, HK4.out⟩, HB4.out⟩
        case measure => simp [intOf]; omega
    · have hon : Calls Try.prog 19 #[.pointer (some ⟨c, 0, none⟩)] wr fun e w' => e = .returned (.bool false) ∧ wr = w' := on_any c b _ wr HK.out
      have hop : ∀ W, DkAt c b (fuEnd k) W → Calls Try.prog 20 #[.pointer (some ⟨c, 0, none⟩)] W fun e w' => e = .returned (.int .i64 ((k : Int) + 1)) ∧ W = w' := fun W h => ops_any c b _ W h
      have hoff : ∀ W, DkAt c b (fuEnd k) W → Calls Try.prog 19 #[.pointer (some ⟨c, 0, none⟩)] W fun e w' => e = .returned (.bool false) ∧ W = w' := fun W h => on_any c b _ W h
      have HOP := Lib.hid hop
      have HOFF := Lib.hid hoff
      clear hop hoff
      by_cases h40 : (k : Int) + 1 < 40
      · go_wp2_with fail
        refine hon.mono ?_
        rintro e w3 ⟨rfl, rfl⟩
        clear hon
        go_wp2_with fail
        refine (alive5_any _).mono ?_
        rintro e w5 ⟨rfl, hb5⟩
        have h5 := HK.out.below hb5 HK.out.lt HK.out.ltb
        have HB5 := Lib.hid (HB.out.trans (hb5.mono HB.out.size))
        have HK5 := Lib.hid h5
        have o5 := HOFF.out _ h5
        clear h5 hb5
        go_wp2_with fail
        refine o5.mono ?_
        rintro e w5' ⟨rfl, rfl⟩
        clear o5
        have p5 := HOP.out _ HK5.out
        go_wp2_with fail
        refine p5.mono ?_
        rintro e w5' ⟨rfl, rfl⟩
        clear p5
        have q5 := QF c b _ HK5.out
        go_wp2_with fail
        refine q5.out.mono ?_
        rintro e w6 ⟨A6, cp6, rfl, _, _, hb6⟩
        have HK6 := Lib.hid (HK5.out.below hb6 HK5.out.lt HK5.out.ltb)
        have HB6 := Lib.hid (HB5.out.trans (hb6.mono HB5.out.size))
        clear hb6
        have q6 := QS c b _ HK6.out
        go_wp2_with fail
        refine q6.out.mono ?_
        rintro e w7 ⟨rfl, h7, hm7⟩
        have HB7 := Lib.hid (Dk.there hc hb HB6.out hm7)
        have p7 := HOP.out _ h7
        clear h7 hm7
        go_wp2_with fail
        refine p7.mono ?_
        rintro e w7' ⟨rfl, rfl⟩
        clear p7
        go_wp2
        go_ret
        exact ⟨rfl, HB7.out⟩
      · clear hon
        go_wp2_with fail
        refine (alive5_any _).mono ?_
        rintro e w5 ⟨rfl, hb5⟩
        have h5 := HK.out.below hb5 HK.out.lt HK.out.ltb
        have HB5 := Lib.hid (HB.out.trans (hb5.mono HB.out.size))
        have HK5 := Lib.hid h5
        have o5 := HOFF.out _ h5
        clear h5 hb5
        go_wp2_with fail
        refine o5.mono ?_
        rintro e w5' ⟨rfl, rfl⟩
        clear o5
        have p5 := HOP.out _ HK5.out
        go_wp2_with fail
        refine p5.mono ?_
        rintro e w5' ⟨rfl, rfl⟩
        clear p5
        have q5 := QF c b _ HK5.out
        go_wp2_with fail
        refine q5.out.mono ?_
        rintro e w6 ⟨A6, cp6, rfl, _, _, hb6⟩
        have HK6 := Lib.hid (HK5.out.below hb6 HK5.out.lt HK5.out.ltb)
        have HB6 := Lib.hid (HB5.out.trans (hb6.mono HB5.out.size))
        clear hb6
        have q6 := QS c b _ HK6.out
        go_wp2_with fail
        refine q6.out.mono ?_
        rintro e w7 ⟨rfl, h7, hm7⟩
        have HB7 := Lib.hid (Dk.there hc hb HB6.out hm7)
        have p7 := HOP.out _ h7
        clear h7 hm7
        go_wp2_with fail
        refine p7.mono ?_
        rintro e w7' ⟨rfl, rfl⟩
        clear p7
        go_wp2
        go_ret
        exact ⟨rfl, HB7.out⟩
end Go.Proofs.Ytofnglegdhchnaa
