/-
  DiskTwins: the walk.
  Conditions: steps in memory, texts.
-/
import Derived.Test.YtofnglegdhchnaaDiskTwins
namespace Go.Proofs.Ytofnglegdhchnaa
open Go.RowKit Go.Maps Go.Sort

set_option maxHeartbeats 4000000 in
set_option maxRecDepth 100000 in
theorem dtwins_walk (l : List DOp) (A : Option Addr) (cp : Nat) (s x : ByteArray) (w : World) (hr : OpsAt w w.heap.size A l) (hl : l.length ≤ 9223372036854775807) (hf : ∀ x ∈ l, x.Fits) :
    Calls Try.prog 6 #[.slice A l.length cp, .string s, .string x] w fun e w' => e = .returned (.bool true) ∧ Below w.heap.size w w' := by
  have hL := light5_any l A cp w hr hl hf
  obtain ⟨n, hn⟩ : ∃ n, l.length = n := ⟨_, rfl⟩
  rw [hn] at hL hl ⊢
  have HL := Lib.hid hL; have HR := Lib.hid hr; have HF := Lib.hid hf; have HN := Lib.hid hn
  clear hL hr hf hn
  by_cases hs30 : 30 < s.size
  · go_enter Try.func6, Try.ntmps6
    go_wp2_with fail
    refine HL.out.mono ?_
    rintro e w1 ⟨⟨b, rfl⟩, hb1⟩
    have HB1 := Lib.hid hb1
    clear hb1
    cases b
    all_goals
      go_wp2_with fail
      refine (alive5_any _).mono ?_
      rintro e w2 ⟨rfl, hb2⟩
      have HB2 := Lib.hid (HB1.out.trans (hb2.mono HB1.out.size))
      clear hb2
      go_wp2
      go_ret
      exact ⟨rfl, HB2.out⟩
  by_cases hx30 : 3000 < x.size
  · go_enter Try.func6, Try.ntmps6
    go_wp2_with fail
    refine HL.out.mono ?_
    rintro e w1 ⟨⟨b, rfl⟩, hb1⟩
    have HB1 := Lib.hid hb1
    clear hb1
    cases b
    all_goals
      go_wp2_with fail
      refine (alive5_any _).mono ?_
      rintro e w2 ⟨rfl, hb2⟩
      have HB2 := Lib.hid (HB1.out.trans (hb2.mono HB1.out.size))
      clear hb2
      go_wp2
      go_ret
      exact ⟨rfl, HB2.out⟩
  have hs9 : s.size ≤ 9223372036854775807 := by omega
  have hx9 : x.size ≤ 9223372036854775807 := by omega
  go_enter Try.func6, Try.ntmps6
  go_wp2_with fail
  refine HL.out.mono ?_
  rintro e w1 ⟨⟨b, rfl⟩, hb1⟩
  have HB1 := Lib.hid hb1
  clear hb1
  cases b
  · go_wp2_with fail
    refine (alive5_any _).mono ?_
    rintro e w2 ⟨rfl, hb2⟩
    have HB2 := Lib.hid (HB1.out.trans (hb2.mono HB1.out.size))
    clear hb2
    go_wp2
    go_ret
    exact ⟨rfl, HB2.out⟩
  go_wp2_with fail
  refine (new_any _).mono ?_
  rintro e w2 ⟨c, b, rfl, h2, hc0, hb0, hb2⟩
  have hz1 := HB1.out.size
  have hc : w.heap.size ≤ c := by omega
  have hb : w.heap.size ≤ b := by omega
  have HB2 := Lib.hid (HB1.out.trans (hb2.mono hz1))
  have HK2 := Lib.hid h2
  clear h2 hb2 HB1 hc0 hb0 hz1
  go_wp2
  go_loopw [8] (fun i wr => ∃ k : Nat, k ≤ n ∧ i = .int .i64 k ∧ Hid (∃ st, DkAt c b st wr ∧ TInv st) ∧ Hid (Below w.heap.size w wr)) (fun i _ => n - (intOf i).toNat)
  case atStart => exact ⟨0, Nat.zero_le _, rfl, ⟨newDk, HK2.out, tinv_new⟩, HB2.out⟩
  case round =>
    obtain ⟨k, hk, rfl, HK, HB⟩ := hrel
    obtain ⟨st, hdk, hinv⟩ := HK.out
    have HD := Lib.hid hdk; have HI := Lib.hid hinv
    clear hdk hinv HK
    by_cases hlt : k < n
    · obtain ⟨ad, y, rfl, hab, hyk, hc'⟩ := (HR.out.below HB.out).at_ (show k < l.length by rw [HN.out]; exact hlt)
      have hfy := HF.out y (List.mem_of_getElem? hyk)
      have c0 : wr.cell? (ad.add (k * 5)) = some (.int .i64 y.kind) := by have h := hc' 0 _ rfl; rw [show (ad.add (k * 5)).add 0 = ad.add (k * 5) from by rw [add_of_add]; rfl] at h; exact h
      have c2 : wr.cell? ⟨(ad.add (k * 5)).block, (ad.add (k * 5)).off + 2, none⟩ = some (.string y.a) := hc' 2 _ rfl
      have c3 : wr.cell? ⟨(ad.add (k * 5)).block, (ad.add (k * 5)).off + 3, none⟩ = some (.string y.b) := hc' 3 _ rfl
      have hya := hfy.2.1
      have hyb := hfy.2.2.1
      clear hc' hyk hfy
      by_cases k1 : y.kind = 1
      · have kb1 : (y.kind == 1) = true := by rw [k1]; rfl
        have q1 := create_any c b st HI.out.ok y.a hya wr HD.out
        have HI2 := Lib.hid (tinv_create HI.out y.a)
        clear HI
        go_wp2_with fail
        refine q1.mono ?_
        rintro e w3 ⟨rfl, h3, hm3⟩
        have HK3 := Lib.hid (show ∃ st, DkAt c b st w3 ∧ TInv st from ⟨_, h3, HI2.out⟩)
        have HB3 := Lib.hid (Dk.there hc hb HB.out hm3)
        clear h3 hm3 q1 HI2 HD HB c0 c2 c3
        go_wp2
        go_roundw
        case rel => exact ⟨k + 1, hlt, by go_num, HK3.out, HB3.out⟩
        case measure => simp [intOf]; omega
      · have kb1 : (y.kind == 1) = false := beq_false_of_ne k1
        by_cases k2 : y.kind = 2
        · have kb2 : (y.kind == 2) = true := by rw [k2]; rfl
          have q1 := append_any c b st HI.out.ok y.a y.b hya hyb wr.drew HD.out
          have HI2 := Lib.hid (tinv_append HI.out y.a y.b)
          have hbk : (ad.add (k * 5)).block < w.heap.size := by rw [block_of_add]; exact hab
          have hzb := HB.out.size
          clear HI
          go_wp2
          go_region_held3 (fun W => W.cell? ⟨(ad.add (k * 5)).block, (ad.add (k * 5)).off + 2, none⟩ = some (.string y.a) ∧ W.cell? ⟨(ad.add (k * 5)).block, (ad.add (k * 5)).off + 3, none⟩ = some (.string y.b))
            (first
              | exact ⟨c2, c3⟩
              | exact ⟨(World.cell?_of_block (a := ⟨(ad.add (k * 5)).block, (ad.add (k * 5)).off + 2, none⟩) (hm3.block (ad.add (k * 5)).block (by show _ < wr.heap.size; omega) (by simp; omega))).trans c2, (World.cell?_of_block (a := ⟨(ad.add (k * 5)).block, (ad.add (k * 5)).off + 3, none⟩) (hm3.block (ad.add (k * 5)).block (by show _ < wr.heap.size; omega) (by simp; omega))).trans c3⟩)
            (first | (go_at_call 12; refine q1.mono ?_; rintro e w3 ⟨rfl, h3, hm3⟩))
          have HK3 := Lib.hid (show ∃ st, DkAt c b st w3 ∧ TInv st from ⟨_, h3, HI2.out⟩)
          have HB3 := Lib.hid (Dk.there hc hb (w1 := wr.drew) HB.out.drew hm3)
          clear h3 hm3 q1 HI2 HD HB c0 c2 c3
          go_wp2
          go_roundw
          case rel => exact ⟨k + 1, hlt, by go_num, HK3.out, HB3.out⟩
          case measure => simp [intOf]; omega
        · have kb2 : (y.kind == 2) = false := beq_false_of_ne k2
          by_cases k3 : y.kind = 3
          · have kb3 : (y.kind == 3) = true := by rw [k3]; rfl
            have q1 := sync_any c b st HI.out.ok y.a hya wr HD.out
            have HI2 := Lib.hid (tinv_sync HI.out y.a)
            clear HI
            go_wp2_with fail
            refine q1.mono ?_
            rintro e w3 ⟨rfl, h3, hm3⟩
            have HK3 := Lib.hid (show ∃ st, DkAt c b st w3 ∧ TInv st from ⟨_, h3, HI2.out⟩)
            have HB3 := Lib.hid (Dk.there hc hb HB.out hm3)
            clear h3 hm3 q1 HI2 HD HB c0 c2 c3
            go_wp2
            go_roundw
            case rel => exact ⟨k + 1, hlt, by go_num, HK3.out, HB3.out⟩
            case measure => simp [intOf]; omega
          · have kb3 : (y.kind == 3) = false := beq_false_of_ne k3
            have HK3 := Lib.hid (show ∃ st, DkAt c b st wr ∧ TInv st from ⟨_, HD.out, HI.out⟩)
            clear HD HI c2 c3
            go_wp2
            go_roundw
            case rel => exact ⟨k + 1, hlt, by go_num, HK3.out, HB.out⟩
            case measure => simp [intOf]; omega
    · obtain rfl : k = n := by omega
      have hlc := HD.out.lt
      have hlb := HD.out.ltb
      have hcb := HD.out.2.2
      have q4 := twin_any c b st wr HD.out
      go_wp2_with fail
      refine q4.mono ?_
      rintro e w4 ⟨c', b', rfl, h4, hc', hb', hb4⟩
      have HD4 := Lib.hid (HD.out.below hb4 hlc hlb)
      have HT4 := Lib.hid h4
      have HB4 := Lib.hid (HB.out.trans (hb4.mono HB.out.size))
      have hz4 := HB.out.size
      have hlc' := h4.lt
      have hlb' := h4.ltb
      have hlen := lstS_len HI.out.ok.good.keys
      have hfew := HI.out.few
      have HLL : Hid ((lstS st.fs).length ≤ 40) := by show _ ≤ _; omega
      have qf := files_any c' b' st HI.out.ok w4.drew HT4.out
      clear h4 hb4 q4 HD HB hlen
      go_wp2
      go_region_held3 (fun _ => True) (trivial) (first
        | (go_at_call 21; (with_reducible refine qg.mono ?_); rintro e w6 ⟨A6, cp6, rfl, hr6, hA6, hb6⟩; have qs := same_any (lstS st.fs) (lstS st.fs) A5 A6 cp5 cp6 w6.heap.size w6 ((hr5.below hb6).more hb6.size) hr6 (by have := HLL.out; omega) (by have := HLL.out; omega); rw [sameB_self] at qs)
        | (go_at_call 21; (with_reducible refine qf.mono ?_); rintro e w5 ⟨A5, cp5, rfl, hr5, hA5, hb5⟩; have qg := files_any c b st HI.out.ok w5 ((show DkAt c b st w4.drew from HD4.out).below hb5 (show c < w4.heap.size by omega) (show b < w4.heap.size by omega)))
        | (go_at_call 24; (with_reducible refine qs.mono ?_); rintro e w7 ⟨rfl, q7, rfl⟩; have hT7 : DkAt c' b' st (w6.drewN q7) := ((show DkAt c' b' st w4.drew from HT4.out).below hb5 (show c' < w4.heap.size by omega) (show b' < w4.heap.size by omega)).below (drewN_below hb6 q7) (by have := hb5.size; show c' < w5.heap.size; simp at this; omega) (by have := hb5.size; show b' < w5.heap.size; simp at this; omega); have hD7 : DkAt c b st (w6.drewN q7) := ((show DkAt c b st w4.drew from HD4.out).below hb5 (show c < w4.heap.size by omega) (show b < w4.heap.size by omega)).below (drewN_below hb6 q7) (by have := hb5.size; show c < w5.heap.size; simp at this; omega) (by have := hb5.size; show b < w5.heap.size; simp at this; omega); have qo := ops_any c' b' st _ hT7; have qp := ops_any c b st _ hD7)
        | (go_at_call 20; (with_reducible refine qo.mono ?_); rintro e w8 ⟨rfl, rfl⟩)
        | (go_at_call 20; (with_reducible refine qp.mono ?_); rintro e w8 ⟨rfl, rfl⟩))
      have hz5 : w4.heap.size ≤ w5.heap.size := hb5.size
      have hz6 : w5.heap.size ≤ w6.heap.size := hb6.size
      have hB5 : Below w.heap.size w w5 := HB4.out.drew.trans (hb5.mono (show w.heap.size ≤ w4.heap.size from HB4.out.size))
      have HB7 := Lib.hid (drewN_below (hB5.trans (hb6.mono hB5.size)) q7)
      obtain ⟨W, HW⟩ : ∃ W, Hid (w6.drewN q7 = W) := ⟨_, rfl⟩
      rw [HW.out] at hD7 hT7 HB7 ⊢
      have hzW : w4.heap.size ≤ W.heap.size := by rw [← HW.out]; show w4.heap.size ≤ w6.heap.size; omega
      have HD7 := Lib.hid hD7; have HT7 := Lib.hid hT7
      clear hD7 hT7 hb5 hb6 hB5 qf qg qs qo qp hr5 hr6 hA5 hA6 HD4 HT4 HB4 HW hz5 hz6
      have hq9 : ∀ rd : ByteArray × Int, (rd.1.toList == rd.1.toList) = true := fun rd => beq_self_eq_true _
      have q8 := files_any c b st HI.out.ok W HD7.out
      go_wp2_with fail
      refine q8.mono ?_
      rintro e w8 ⟨A8, cp8, rfl, hr8, hA8, hb8⟩
      have hz8 := hb8.size
      have HD8 := Lib.hid (HD7.out.below hb8 (by omega) (by omega))
      have HT8 := Lib.hid (HT7.out.below hb8 (by omega) (by omega))
      have HB8 := Lib.hid (HB7.out.trans (hb8.mono HB7.out.size))
      have HR8 := Lib.hid hr8
      have HA8 := Lib.hid hA8
      clear q8 hb8 hr8 hA8 HD7 HT7 HB7
      have q9 := read_any c b st HI.out.ok.good s hs9 w8 HD8.out
      have q13' := fun (w' : World) (h : DkAt c b st w') => read_any c b st HI.out.ok.good s hs9 w' h
      obtain ⟨rd, hrd⟩ : ∃ rd, readD st s = rd := ⟨_, rfl⟩
      simp only [hrd] at q9 q13'
      have Q13 := Lib.hid q13'
      have hqr := hq9 rd
      clear hrd hq9 q13'
      go_wp2_with fail
      refine q9.mono ?_
      rintro e w9 ⟨rfl, hb9⟩
      have hz9 := hb9.size
      have HD9 := Lib.hid (HD8.out.below hb9 (by omega) (by omega))
      have HT9 := Lib.hid (HT8.out.below hb9 (by omega) (by omega))
      have HB9 := Lib.hid (HB8.out.trans (hb9.mono HB8.out.size))
      have HR9 := Lib.hid ((HR8.out.below hb9).more hz9)
      clear q9 hb9 HD8 HT8 HB8 HR8
      have q10 := create_any c' b' st HI.out.ok s hs9 w9 HT9.out
      have i10 := tinv_create HI.out s
      obtain ⟨st2, hst2⟩ : ∃ st2, createD st s = st2 := ⟨_, rfl⟩
      rw [hst2] at q10 i10
      clear hst2
      go_wp2_with fail
      refine q10.mono ?_
      rintro e w10 ⟨rfl, hT10, hm10⟩
      have hz10 := hm10.size
      have HD10 := Lib.hid (HD9.out.mv hm10 (by simp; omega) (by simp; omega))
      have HB10 := Lib.hid (Dk.there (c := c') (b := b') (by omega) (by omega) HB9.out hm10)
      have HR10 := Lib.hid (HR9.out.apart (fun ad e => ⟨by have := (HA8.out ad e).1; simp; omega, by have := (HA8.out ad e).2; omega⟩) hm10 hm10.size)
      have HT10 := Lib.hid hT10
      clear q10 hm10 hT10 HD9 HT9 HB9 HR9
      have q11 := append_any c' b' st2.2 i10.ok s x hs9 hx9 w10 HT10.out
      have i11 := tinv_append i10 s x
      obtain ⟨st3, hst3⟩ : ∃ st3, appendD st2.2 s x = st3 := ⟨_, rfl⟩
      rw [hst3] at q11 i11
      clear hst3 i10
      go_wp2_with fail
      refine q11.mono ?_
      rintro e w11 ⟨rfl, hT11, hm11⟩
      have hz11 := hm11.size
      have HD11 := Lib.hid (HD10.out.mv hm11 (by simp; omega) (by simp; omega))
      have HB11 := Lib.hid (Dk.there (c := c') (b := b') (by omega) (by omega) HB10.out hm11)
      have HR11 := Lib.hid (HR10.out.apart (fun ad e => ⟨by have := (HA8.out ad e).1; simp; omega, by have := (HA8.out ad e).2; omega⟩) hm11 hm11.size)
      have q12 := crash_any c' b' st3.2 i11.ok [9] (some ⟨w11.heap.size, 0, none⟩) 1 (w11.alloc (.cells #[.int .i64 9] 3)) (hT11.alloc _) (reads_newV _ _ _ _ rfl rfl rfl (by simp)) (fun _ ad e => by injection e with e; subst e; refine ⟨?_, ?_, ?_⟩ <;> simp <;> omega) (by decide) (by decide)
      have on12 : (crashD st3.2 [9]).on = false := rfl
      obtain ⟨st4, hst4⟩ : ∃ st4, crashD st3.2 [9] = st4 := ⟨_, rfl⟩
      rw [hst4] at q12 on12
      clear q11 hm11 hT11 HD10 HT10 HB10 HR10 hst4 i11
      go_wp2_with fail
      refine q12.mono ?_
      rintro e w12 ⟨rfl, hT12, hm12⟩
      have hz12 : w11.heap.size ≤ w12.heap.size := by have := hm12.size; simp at this; omega
      have HD12 := Lib.hid ((HD11.out.alloc _).mv hm12 (by simp; omega) (by simp; omega))
      have HB12 := Lib.hid (Dk.there (c := c') (b := b') (by omega) (by omega) (HB11.out.alloc HB11.out.size _) hm12)
      have HR12 := Lib.hid (((HR11.out.alloc (Nat.le_refl _) _).more (by simp)).apart (C := (w11.alloc (.cells #[.int .i64 9] 3)).heap.size) (fun ad e => ⟨by have := (HA8.out ad e).1; simp; omega, by have := (HA8.out ad e).2; simp; omega⟩) hm12 hm12.size)
      have HT12 := Lib.hid hT12
      clear q12 hm12 hT12 HD11 HB11 HR11
      have q13 := Q13.out w12 HD12.out
      go_wp2_with fail
      refine q13.mono ?_
      rintro e w13 ⟨rfl, hb13⟩
      have hz13 := hb13.size
      have HD13 := Lib.hid (HD12.out.below hb13 (by omega) (by omega))
      have HT13 := Lib.hid (HT12.out.below hb13 (by omega) (by omega))
      have HB13 := Lib.hid (HB12.out.trans (hb13.mono HB12.out.size))
      have HR13 := Lib.hid ((HR12.out.below hb13).more hz13)
      clear q13 hb13 HD12 HT12 HB12 HR12 Q13
      go_wp2_with fail
      refine (alive5_any _).mono ?_
      rintro e w14 ⟨rfl, hb14⟩
      have hz14 := hb14.size
      have HD14 := Lib.hid (HD13.out.below hb14 (by omega) (by omega))
      have HT14 := Lib.hid (HT13.out.below hb14 (by omega) (by omega))
      have HB14 := Lib.hid (HB13.out.trans (hb14.mono HB13.out.size))
      have HR14 := Lib.hid ((HR13.out.below hb14).more hz14)
      clear hb14 HD13 HT13 HB13 HR13
      have o1 := on_any c b st w14 HD14.out
      have o2 := on_any c' b' st4 w14 HT14.out
      rw [HI.out.on] at o1
      rw [on12] at o2
      go_wp2_with fail
      refine o1.mono ?_
      rintro e w15 ⟨rfl, rfl⟩
      go_wp2_with fail
      refine o2.mono ?_
      rintro e w15 ⟨rfl, rfl⟩
      have q15 := files_any c b st HI.out.ok w14 HD14.out
      clear o1 o2
      go_wp2_with fail
      refine q15.mono ?_
      rintro e w15 ⟨A15, cp15, rfl, hr15, hA15, hb15⟩
      have hz15 := hb15.size
      have HR15 := Lib.hid ((HR14.out.below hb15).more hz15)
      have HB15 := Lib.hid (HB14.out.trans (hb15.mono HB14.out.size))
      have qs := same_any (lstS st.fs) (lstS st.fs) A15 A8 cp15 cp8 w15.heap.size w15 hr15 HR15.out (by have := HLL.out; omega) (by have := HLL.out; omega)
      rw [sameB_self] at qs
      clear q15 hb15 hr15 hA15
      go_wp2_with fail
      refine qs.mono ?_
      rintro e w16 ⟨rfl, q16, rfl⟩
      go_wp2
      go_ret
      exact ⟨rfl, drewN_below HB15.out q16⟩
end Go.Proofs.Ytofnglegdhchnaa
