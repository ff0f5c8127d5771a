/-
  DiskRoom: there is room for just so many files, and so many bytes; what is removed gives its room back.
  Conditions: ints.
-/
import Derived.Test.YtofnglegdhchnaaDiskMany
import Derived.OwnWalk
import Derived.Laws.OwnMore
namespace Go.Proofs.Ytofnglegdhchnaa
open Go.RowKit Go.Maps Go.Sort

theorem fsK_at : ∀ (k : Nat) (s : ByteArray), k ≤ 60 → fileAt (fsK k) s = (⟨#[]⟩, 0)
  | 0, s, _ => fileAt_none rfl
  | k + 1, s, h => by
    have hg := (fsK_all (k := k) (by omega)).1
    show fileAt (putF (fsK k) (nameI k) ⟨#[]⟩ 0) s = _
    by_cases e : s = nameI k
    · subst e
      rw [fileAt_put_same hg]
    · rw [fileAt_put_other e]
      exact fsK_at k s (by omega)
/-- So many bytes, all nought. -/
def zerosB (m : Nat) : ByteArray := ⟨(List.replicate m 0).toArray⟩
theorem zerosB_size (m : Nat) : (zerosB m).size = m := by
  show (List.replicate m (0 : UInt8)).toArray.size = m
  simp
theorem upO_nat {k : Nat} (h : k ≤ 1000) : upO (k : Int) = (k + 1 : Nat) := by unfold upO; omega
theorem upO_int {o : Int} (h0 : 0 ≤ o) (h1 : o ≤ 1000) : upO o = o + 1 := by unfold upO; omega
theorem info_byte2 : (Try.prog.info? 5).map (fun i => (i.zero, i.size, i.bytes)) = some (some (.int .u8 0), 1, 1) := by kernel_rfl
theorem info_parts2 {P : Program} {e : TypeId} {z : Option Value} {s b : Nat} (h : (P.info? e).map (fun i => (i.zero, i.size, i.bytes)) = some (z, s, b)) : ∃ i, P.info? e = some i ∧ i.zero = z ∧ i.size = s ∧ i.bytes = b := by
  cases hi : P.info? e with
  | none => rw [hi] at h; cases h
  | some i =>
    rw [hi] at h
    injection h with h
    injection h with h1 h
    injection h with h2 h3
    exact ⟨i, rfl, h1, h2, h3⟩
theorem zeros_cells (m : Nat) : (madeCells #[Value.int .u8 0] m).toList = Lib.byteCells (List.replicate m 0) := by
  rw [toList_madeCells_one]
  simp [Lib.byteCells]
/-- What a disk's map is like behind the making, and a great file. -/
structure Full (E : DataW Unit) : Prop where
  good : GoodF E
  has : hasS E (nameI 0) = true
  few : Maps.size E ≤ 40
  rest : totF (delF E (nameI 0)) = 0
  tot : totF E ≤ 400000
theorem full_fsK {q : Nat} (h1 : 1 ≤ q) (h2 : q ≤ 40) : Full (fsK q) := by
  obtain ⟨a1, a2, a3, a4⟩ := fsK_all (k := q) (by omega)
  have := totF_del a1 (nameI 0)
  exact ⟨a1, (a4 _).2 ⟨0, by omega, rfl⟩, by omega, by omega, by omega⟩
theorem full_put {q : Nat} (h1 : 1 ≤ q) (h2 : q ≤ 40) {z : ByteArray} (hm : z.size ≤ 400000) : Full (putF (fsK q) (nameI 0) z 0) := by
  have hf := full_fsK h1 h2
  have hg := hf.good.put (nameI 0) z (n := 0) (Int.le_refl _) (by omega)
  have t1 := totF_put hf.good (nameI 0) z 0
  have t2 := totF_del hg (nameI 0)
  rw [fileAt_put_same hf.good] at t2
  change totF _ = _ + z.size at t2
  have hr := hf.rest
  have hs := sizeF_put hf.good (nameI 0) z 0
  rw [if_pos hf.has] at hs
  have := hf.few
  exact ⟨hg, (hasF_put hf.good _ _ _ _).2 (.inl rfl), by omega, by omega, by omega⟩
theorem Full.ok {E : DataW Unit} (h : Full E) {o : Int} (h0 : 0 ≤ o) (h1 : o ≤ 4611686018427387904) : (onD o E).Ok := onD_ok h.good h0 h1 (by have := h.few; omega) (by have := h.tot; omega)

set_option maxHeartbeats 4000000 in
set_option maxRecDepth 100000 in
theorem droom_walk (x y : Int) (hx1 : -9223372036854775808 ≤ x) (hx2 : x ≤ 9223372036854775807) (hy1 : -9223372036854775808 ≤ y) (hy2 : y ≤ 9223372036854775807) (w : World) :
    Calls Try.prog 4 #[.int .i64 x, .int .i64 y] w fun e w' => e = .returned (.bool true) ∧ Below w.heap.size w w' := by
  by_cases hl1 : x < 0
  · go_enter Try.func4, Try.ntmps4
    go_wp2_with fail
    refine (alive5_any _).mono ?_
    rintro e w2 ⟨rfl, hb2⟩
    have HB2 := Lib.hid hb2
    clear hb2
    go_wp2
    go_ret
    exact ⟨rfl, HB2.out⟩
  by_cases hl2 : 60 < x
  · go_enter Try.func4, Try.ntmps4
    go_wp2_with fail
    refine (alive5_any _).mono ?_
    rintro e w2 ⟨rfl, hb2⟩
    have HB2 := Lib.hid hb2
    clear hb2
    go_wp2
    go_ret
    exact ⟨rfl, HB2.out⟩
  by_cases hl3 : y < 0
  · go_enter Try.func4, Try.ntmps4
    go_wp2_with fail
    refine (alive5_any _).mono ?_
    rintro e w2 ⟨rfl, hb2⟩
    have HB2 := Lib.hid hb2
    clear hb2
    go_wp2
    go_ret
    exact ⟨rfl, HB2.out⟩
  by_cases hl4 : 500000 < y
  · go_enter Try.func4, Try.ntmps4
    go_wp2_with fail
    refine (alive5_any _).mono ?_
    rintro e w2 ⟨rfl, hb2⟩
    have HB2 := Lib.hid hb2
    clear hb2
    go_wp2
    go_ret
    exact ⟨rfl, HB2.out⟩
  obtain ⟨n, rfl⟩ : ∃ n : Nat, x = n := ⟨x.toNat, by omega⟩
  obtain ⟨m, rfl⟩ : ∃ m : Nat, y = m := ⟨y.toNat, by omega⟩
  have hn : n ≤ 60 := by omega
  have hm : m ≤ 500000 := by omega
  clear hx1 hx2 hy1 hy2
  obtain ⟨ib, hib, hz0, hz1, hz2⟩ := info_parts2 info_byte2
  have RC : ∀ (k : Nat) (hk : k < 40) (c b : Nat) w (h : DkAt c b (onD (k : Nat) (fsK k)) w), Calls Try.prog 11 #[.pointer (some ⟨c, 0, none⟩), .string (nameI k)] w fun e w' => e = .returned (.int .i64 0) ∧ DkAt c b (onD (k + 1 : Nat) (fsK (k + 1))) w' ∧ Mv [c, b] [c, b] w w' := by
    intro k hk c b w h
    obtain ⟨a1, a2, a3, a4⟩ := fsK_all (k := k) (by omega)
    have h1 := create_any c b _ (onD_ok a1 (by omega) (by omega) (by omega) (by omega)) (nameI k) (nameI_size k) w h
    rw [create_new (nameI_valid k) (fsK_new (by omega) (by omega) (Nat.le_refl k)) (by omega), upO_nat (by omega)] at h1
    exact h1
  have RD : ∀ (k : Nat) (hk : ¬ k < 40) (hk2 : k ≤ 60) (c b : Nat) w (h : DkAt c b (onD (k : Nat) (fsK 40)) w), Calls Try.prog 11 #[.pointer (some ⟨c, 0, none⟩), .string (nameI k)] w fun e w' => e = .returned (.int .i64 10) ∧ DkAt c b (onD (k + 1 : Nat) (fsK 40)) w' ∧ Mv [c, b] [c, b] w w' := by
    intro k hk hk2 c b w h
    obtain ⟨a1, a2, a3, a4⟩ := fsK_all (k := 40) (by omega)
    have h1 := create_any c b _ (onD_ok a1 (by omega) (by omega) (by omega) (by omega)) (nameI k) (nameI_size k) w h
    rw [create_full (nameI_valid k) (fsK_new (by omega) (by omega) (by omega)) (by omega), upO_nat (by omega)] at h1
    exact h1
  have RG : ∀ (E : DataW Unit) (hE : Full E) (o : Int) (h0 : 0 ≤ o) (h1 : o ≤ 1000) (c b : Nat) w (h : DkAt c b (onD o E) w), Calls Try.prog 17 #[.pointer (some ⟨c, 0, none⟩), .string ⟨#[102, 48]⟩] w fun e w' => e = .returned (.int .i64 0) ∧ DkAt c b (onD (o + 1) (delF E (nameI 0))) w' ∧ Mv [c, b] [c, b] w w' := by
    intro E hE o h0 h1 c b w h
    have h2 := remove_any c b _ (hE.ok h0 (by omega)) (nameI 0) (nameI_size 0) w h
    rw [remove_on hE.has, show upO o = o + 1 from by unfold upO; omega] at h2
    exact h2
  have RH : ∀ (E : DataW Unit) (hE : Full E) (o : Int) (h0 : 0 ≤ o) (h1 : o ≤ 1000) (c b : Nat) w (h : DkAt c b (onD o (delF E (nameI 0))) w), Calls Try.prog 11 #[.pointer (some ⟨c, 0, none⟩), .string ⟨#[102, 48]⟩] w fun e w' => e = .returned (.int .i64 0) ∧ DkAt c b (onD (o + 1) (putF (delF E (nameI 0)) (nameI 0) ⟨#[]⟩ 0)) w' ∧ Mv [c, b] [c, b] w w' := by
    intro E hE o h0 h1 c b w h
    have g1 := hE.good.del (nameI 0)
    have hs := sizeF_del hE.good (nameI 0)
    rw [if_pos hE.has] at hs
    have hf := hE.few
    have hr := hE.rest
    have hh : hasS (delF E (nameI 0)) (nameI 0) = false := by
      cases h3 : hasS (delF E (nameI 0)) (nameI 0)
      · rfl
      · exact absurd rfl ((hasF_del _ _).1 h3).1
    have h2 := create_any c b _ (onD_ok g1 h0 (by omega) (by omega) (by omega)) (nameI 0) (nameI_size 0) w h
    rw [create_new (nameI_valid 0) hh (by omega), show upO o = o + 1 from by unfold upO; omega] at h2
    exact h2
  have RI : ∀ (E : DataW Unit) (hE : Full E) (o : Int) (h0 : 0 ≤ o) (h1 : o ≤ 1000) (z : ByteArray) (hz : z.size ≤ 400000) (c b : Nat) w (h : DkAt c b (onD o (putF (delF E (nameI 0)) (nameI 0) ⟨#[]⟩ 0)) w), Calls Try.prog 12 #[.pointer (some ⟨c, 0, none⟩), .string ⟨#[102, 48]⟩, .string z] w fun e w' => e = .returned (.int .i64 0) ∧ Mv [c, b] [c, b] w w' := by
    intro E hE o h0 h1 z hz c b w h
    have g1 := hE.good.del (nameI 0)
    have g2 := g1.put (nameI 0) ⟨#[]⟩ (n := 0) (Int.le_refl _) (Int.le_refl _)
    have hs := sizeF_del hE.good (nameI 0)
    have hs2 := sizeF_put g1 (nameI 0) ⟨#[]⟩ 0
    have ht := totF_put_le g1 (nameI 0) ⟨#[]⟩ 0
    have he : (⟨#[]⟩ : ByteArray).size = 0 := rfl
    have hf := hE.few
    have hr := hE.rest
    have hz2 : Maps.size (putF (delF E (nameI 0)) (nameI 0) ⟨#[]⟩ 0) ≤ 1000000 := by
      rw [hs2]
      split <;> omega
    have h2 := append_any c b _ (onD_ok g2 h0 (by omega) hz2 (by omega)) (nameI 0) z (nameI_size 0) (by omega) w h
    rw [append_on ((hasF_put g1 _ _ _ _).2 (.inl rfl)) (by omega)] at h2
    exact h2.mono fun e w' h => ⟨h.1, h.2.2⟩
  have hcv := fun k hk W => conv_name k hk W
  have QC := fun k hk c b w h => Lib.hid (RC k hk c b w h); have QD := fun k hk hk2 c b w h => Lib.hid (RD k hk hk2 c b w h)
  have QG := Lib.hid RG; have QH := Lib.hid RH; have QI := Lib.hid RI
  have QV := Lib.hid hcv
  clear RC RD RG RH RI hcv
  go_enter Try.func4, Try.ntmps4
  go_wp2_with fail
  refine (new_any _).mono ?_
  rintro e w1 ⟨c, b, rfl, h1, hc, hb, hb1⟩
  have HB1 := Lib.hid hb1
  have HK1 := Lib.hid h1
  clear hb1 h1
  go_wp2
  go_loopw [6, 7] (fun d i wr => ∃ k : Nat, k ≤ n ∧ i = .int .i64 k ∧ d = .int .i64 (min (k : Int) 40) ∧ Hid (DkAt c b (onD (k : Nat) (fsK (min k 40))) wr) ∧ Hid (Below w.heap.size w wr)) (fun _ i _ => n - (intOf i).toNat)
  case atStart => exact ⟨0, Nat.zero_le _, rfl, rfl, HK1.out, HB1.out⟩
  case round =>
    obtain ⟨k, hk, rfl, rfl, HK, HB⟩ := hrel
    have hlc := HK.out.lt
    have hlb := HK.out.ltb
    by_cases hlt : k < n
    · have hcv := QV.out k (by omega) wr
      by_cases h40 : k < 40
      · rw [show min (k : Int) 40 = k by omega]
        rw [show min k 40 = k by omega] at HK
        have q4 := QC k h40 c b _ (HK.out.alloc (.cells #[.int .u8 102, .int .u8 (48 + (k : Int))] 5))
        clear HK
        go_wp2_with fail
        refine q4.out.mono ?_
        rintro e w4 ⟨rfl, h4, hm4⟩
        have HK4 := Lib.hid h4
        have HB4 := Lib.hid (Dk.there hc hb (HB.out.alloc HB.out.size _) hm4)
        clear h4 hm4 hcv q4 HB
        go_wp2
        go_roundw
        case rel => exact ⟨k + 1, hlt, by go_num, by rw [show min ((k + 1 : Nat) : Int) 40 = (k : Int) + 1 by omega], by rw [show min (k + 1) 40 = k + 1 by omega]; exact HK4.out, HB4.out⟩
        case measure => simp [intOf]; omega
      · rw [show min (k : Int) 40 = 40 by omega]
        rw [show min k 40 = 40 by omega] at HK
        have q4 := QD k h40 (by omega) c b _ (HK.out.alloc (.cells #[.int .u8 102, .int .u8 (48 + (k : Int))] 5))
        clear HK
        go_wp2_with fail
        refine q4.out.mono ?_
        rintro e w4 ⟨rfl, h4, hm4⟩
        have HK4 := Lib.hid h4
        have HB4 := Lib.hid (Dk.there hc hb (HB.out.alloc HB.out.size _) hm4)
        clear h4 hm4 hcv q4 HB
        go_wp2
        go_roundw
        case rel => exact ⟨k + 1, hlt, by go_num, by rw [show min ((k + 1 : Nat) : Int) 40 = 40 by omega], by rw [show min (k + 1) 40 = 40 by omega]; exact HK4.out, HB4.out⟩
        case measure => simp [intOf]; omega
    · obtain rfl : k = n := by omega
      by_cases h0 : k = 0
      · subst h0
        go_wp2_with fail
        refine (alive5_any _).mono ?_
        rintro e w5 ⟨rfl, hb5⟩
        have HB5 := Lib.hid (HB.out.trans (hb5.mono HB.out.size))
        clear hb5
        go_wp2
        go_ret
        exact ⟨rfl, HB5.out⟩
      · have hk0 : ((k : Int) == 0) = false := by simp; omega
        obtain ⟨q, hq⟩ : ∃ q, min k 40 = q := ⟨_, rfl⟩
        rw [hq] at HK
        have hq1 : 1 ≤ q := by omega
        have hq2 : q ≤ 40 := by omega
        have hszc := HB.out.size
        clear hq
        go_wp2_with (refine wpList_make_full _ rfl _ _ 32 rfl 0 5 ib (.int .u8 0) 1 Try.underlying32 hib hz0 hz1 .i64 .i64 (m : Int) (m : Int) m rfl rfl rfl rfl (by rw [hz2]; omega) (by unfold maxLen; omega) (Nat.zero_le _) ?_)
        intro w3 hown3 hgrow3
        have hrd := Reads.of_own hown3
        rw [zeros_cells] at hrd
        have hcv3 := run_bytes_string w3 (c := m) Try.underlying32 Try.underlying5 Try.underlying9 (l := List.replicate m 0) (by simp) hrd
        change _ = Result.ok (Value.string (zerosB m)) w3 at hcv3
        have hzs := zerosB_size m
        have hb3 : Below wr.heap.size wr w3 := ⟨hgrow3.os, hgrow3.tape, hgrow3.output, hgrow3.size, fun i hi => hgrow3.block i hi (by simp)⟩
        have HK3 := Lib.hid (HK.out.below hb3 hlc hlb)
        have HB3 := Lib.hid (HB.out.trans (hb3.mono hszc))
        clear hown3 hgrow3 hrd hb3 HK HB
        obtain ⟨z, hz⟩ : ∃ z, zerosB m = z := ⟨_, rfl⟩
        rw [hz] at hcv3 hzs
        clear hz
        by_cases hfit : m ≤ 400000
        · have hE : Full (putF (fsK q) (nameI 0) z 0) := full_put hq1 hq2 (by omega)
          have q5 := append_any c b _ ((full_fsK hq1 hq2).ok (o := (k : Int)) (by omega) (by omega)) (nameI 0) z (nameI_size 0) (by omega) w3 HK3.out
          have e5 : appendD (onD (k : Int) (fsK q)) (nameI 0) z = (0, onD ((k : Int) + 1) (putF (fsK q) (nameI 0) z 0)) := by
            rw [append_on (full_fsK hq1 hq2).has (by rw [(fsK_all (k := q) (by omega)).2.2.1]; omega), fsK_at q _ (by omega), none_app, upO_int (o := (k : Int)) (by omega) (by omega)]
          rw [e5] at q5
          have hmin : min (m : Int) 400000 = m := by omega
          clear e5
          have hdm : decide ((m : Int) ≤ 400000) = true := decide_eq_true (by omega)
          go_wp2_with fail
          refine q5.mono ?_
          rintro e w5 ⟨rfl, h5, hm5⟩
          have HB5 := Lib.hid (Dk.there hc hb HB3.out hm5)
          have q6 := QG.out _ hE ((k : Int) + 1) (by omega) (by omega) c b _ h5
          clear h5 hm5 q5
          go_wp2_with fail
          refine q6.mono ?_
          rintro e w6 ⟨rfl, h6, hm6⟩
          have HB6 := Lib.hid (Dk.there hc hb HB5.out hm6)
          have q7 := QH.out _ hE ((k : Int) + 1 + 1) (by omega) (by omega) c b _ h6
          clear h6 hm6 q6
          go_wp2_with fail
          refine q7.mono ?_
          rintro e w7 ⟨rfl, h7, hm7⟩
          have HB7 := Lib.hid (Dk.there hc hb HB6.out hm7)
          have q8 := fun (t : ByteArray) (ht : t.size ≤ 400000) => QI.out _ hE ((k : Int) + 1 + 1 + 1) (by omega) (by omega) t ht c b _ h7
          clear h7 hm7 q7
          go_wp2_with fail
          refine (q8 _ (by have := extract_le z m; first | omega | (rw [cut_size (by omega)]; omega))).mono ?_
          rintro e w8 ⟨rfl, hm8⟩
          have HB8 := Lib.hid (Dk.there hc hb HB7.out hm8)
          clear hm8 q8
          go_wp2_with fail
          refine (alive5_any _).mono ?_
          rintro e w9 ⟨rfl, hb9⟩
          have HB9 := Lib.hid (HB8.out.trans (hb9.mono HB8.out.size))
          clear hb9
          go_wp2
          go_ret
          exact ⟨rfl, HB9.out⟩
        · have hE : Full (fsK q) := full_fsK hq1 hq2
          have q5 := append_any c b _ (hE.ok (o := (k : Int)) (by omega) (by omega)) (nameI 0) z (nameI_size 0) (by omega) w3 HK3.out
          have e5 : appendD (onD (k : Int) (fsK q)) (nameI 0) z = (10, onD ((k : Int) + 1) (fsK q)) := by
            rw [append_full hE.has (by rw [(fsK_all (k := q) (by omega)).2.2.1]; omega), upO_int (o := (k : Int)) (by omega) (by omega)]
          rw [e5] at q5
          have hmin : min (m : Int) 400000 = 400000 := by omega
          clear e5
          have hdm : decide ((m : Int) ≤ 400000) = false := decide_eq_false (by omega)
          go_wp2_with fail
          refine q5.mono ?_
          rintro e w5 ⟨rfl, h5, hm5⟩
          have HB5 := Lib.hid (Dk.there hc hb HB3.out hm5)
          have q6 := QG.out _ hE ((k : Int) + 1) (by omega) (by omega) c b _ h5
          clear h5 hm5 q5
          go_wp2_with fail
          refine q6.mono ?_
          rintro e w6 ⟨rfl, h6, hm6⟩
          have HB6 := Lib.hid (Dk.there hc hb HB5.out hm6)
          have q7 := QH.out _ hE ((k : Int) + 1 + 1) (by omega) (by omega) c b _ h6
          clear h6 hm6 q6
          go_wp2_with fail
          refine q7.mono ?_
          rintro e w7 ⟨rfl, h7, hm7⟩
          have HB7 := Lib.hid (Dk.there hc hb HB6.out hm7)
          have q8 := fun (t : ByteArray) (ht : t.size ≤ 400000) => QI.out _ hE ((k : Int) + 1 + 1 + 1) (by omega) (by omega) t ht c b _ h7
          clear h7 hm7 q7
          go_wp2_with fail
          refine (q8 _ (by have := extract_le z 400000; first | omega | (rw [cut_size (by omega)]; omega))).mono ?_
          rintro e w8 ⟨rfl, hm8⟩
          have HB8 := Lib.hid (Dk.there hc hb HB7.out hm8)
          clear hm8 q8
          go_wp2_with fail
          refine (alive5_any _).mono ?_
          rintro e w9 ⟨rfl, hb9⟩
          have HB9 := Lib.hid (HB8.out.trans (hb9.mono HB8.out.size))
          clear hb9
          go_wp2
          go_ret
          exact ⟨rfl, HB9.out⟩
end Go.Proofs.Ytofnglegdhchnaa
