/-
  The walk of WireWrites with a made writer: every thing put, in every order; what is handed in stays.
  Conditions: steps in memory.
-/
import Derived.Test.YtfjdcmhhnknojaaWWPair
namespace Go.Proofs.Ytfjdcmhhnknojaa
open Go.RowKit

set_option maxHeartbeats 40000000 in
set_option maxRecDepth 10000 in
theorem wwrites_false (l : List WOp) (A : Option Addr) (c : Nat) (w : World) (hr : WOpsAt w w.heap.size A l) (hl : l.length ≤ 9223372036854775807) (hf : ∀ x ∈ l, x.Fits) :
    Calls Try.prog 5 #[.bool false, .slice A l.length c] w fun e w' => e = .returned (.bool true) ∧ Below w.heap.size w w' := by
  have HLT := light3_any l A c w hr hl hf
  obtain ⟨n, hn⟩ : ∃ n, l.length = n := ⟨_, rfl⟩
  rw [hn] at hl HLT ⊢
  have Hn := Lib.hid hn; have HR := Lib.hid hr; have HF := Lib.hid hf
  clear hn hr hf
  go_enter Try.func5, Try.ntmps5
  go_wp2_with fail
  refine HLT.mono ?_
  rintro e w1 ⟨⟨b, rfl, hb⟩, hB1⟩
  clear HLT
  cases b
  · go_wp2_with fail
    refine (alive3_any _).mono ?_
    rintro e w2 ⟨rfl, hB2⟩
    go_wp2
    go_ret
    exact ⟨rfl, hB1.trans (hB2.mono hB1.size)⟩
  · have HS := Lib.hid (hb rfl).2
    have h100 := (hb rfl).1
    rw [Hn.out] at h100
    clear hb
    go_wp2_with fail
    refine (newWriter_any _).mono ?_
    rintro e w2 ⟨rfl, hW2, hB2⟩
    have hz1 := hB1.size
    have hz2 := hB2.size
    have HB2 := Lib.hid (hB1.trans (hB2.mono hz1))
    have HW2 := Lib.hid hW2
    have hlt1 := hW2.lt
    clear hW2 hB2 hB1
    go_wp2
    have HB3 := Lib.hid (HB2.out.alloc (by omega) (.cells #[.slice none 0 0, .int .i64 0] 47))
    have HP3 : Hid (Pr w1.heap.size w2.heap.size w.heap.size [w1.heap.size] [w2.heap.size] (0, []) (0, []) (w2.alloc (.cells #[.slice none 0 0, .int .i64 0] 47))) :=
      ⟨HW2.out.alloc _, rw_new w2, by intro k hk; simp at hk; omega, by intro k hk; simp at hk; omega, by intro k hk; simp at hk ⊢; omega⟩
    obtain ⟨g, hg⟩ : ∃ g, w1.heap.size = g := ⟨_, rfl⟩
    obtain ⟨h, hh⟩ : ∃ h, w2.heap.size = h := ⟨_, rfl⟩
    obtain ⟨W, hW⟩ : ∃ W, w2.alloc (.cells #[.slice none 0 0, .int .i64 0] 47) = W := ⟨_, rfl⟩
    rw [hW] at HB3 HP3 ⊢
    rw [hg, hh] at HP3 ⊢
    clear hg hh hW hz1 hz2 hlt1 HB2 HW2
    go_loopw [7] (fun i wr => ∃ (k : Nat) (st : Wire.St) (S T : List Nat), k ≤ n ∧ i = .int .i64 k ∧ Hid (st.2.length ≤ k * 9189000) ∧ Hid (Pr g h w.heap.size S T st st wr) ∧ Hid (Below w.heap.size w wr)) (fun i _ => n - (intOf i).toNat)
    case atStart => exact ⟨0, (0, []), _, _, Nat.zero_le _, rfl, by show _ ≤ _; simp, HP3.out, HB3.out⟩
    case round =>
      clear HP3 HB3
      obtain ⟨k, st, S, T, hk, rfl, HLEN, HP, HB⟩ := hrel
      by_cases hlt : k < n
      · obtain ⟨ad, y, rfl, hab, hyk, hc, hin⟩ := HR.out.at_ (show k < l.length by rw [Hn.out]; exact hlt)
        have HFY := Lib.hid (HF.out y (List.mem_of_getElem? hyk))
        have HSY := Lib.hid (HS.out y (List.mem_of_getElem? hyk))
        have HIN := Lib.hid hin
        have hC : ∀ j v, y.cells[j]? = some v → wr.cell? ((ad.add (k * 4)).add j) = some v := fun j v hj => (HB.out.cell (by rw [block_of_add, block_of_add]; exact hab)).trans (hc j v hj)
        have e0 : wr.cell? (ad.add (k * 4)) = some (.int .i64 y.kind) := by have h := hC 0 _ rfl; rw [show (ad.add (k * 4)).add 0 = ad.add (k * 4) from by rw [add_of_add]; rfl] at h; exact h
        have e1 : wr.cell? ⟨(ad.add (k * 4)).block, (ad.add (k * 4)).off + 1, none⟩ = some (.slice y.na y.nn.length y.nc) := hC 1 _ rfl
        have e2 : wr.cell? ⟨(ad.add (k * 4)).block, (ad.add (k * 4)).off + 2, none⟩ = some (.slice y.ta y.tt.length y.tc) := hC 2 _ rfl
        have e3 : wr.cell? ⟨(ad.add (k * 4)).block, (ad.add (k * 4)).off + 3, none⟩ = some (.slice y.ba y.bb.length y.bc) := hC 3 _ rfl
        clear hyk hc hin hC
        have hkl : k * 9189000 ≤ 909711000 := by have : k ≤ 99 := by omega
                                                 omega
        obtain ⟨W1, HW1⟩ : ∃ W1, Hid (wr.alloc (.cells #[.int .i64 y.kind, .slice y.na y.nn.length y.nc, .slice y.ta y.tt.length y.tc, .slice y.ba y.bb.length y.bc] 54) = W1) := ⟨_, rfl⟩
        obtain ⟨b0, HB0⟩ : ∃ b0, Hid (wr.heap.size = b0) := ⟨_, rfl⟩
        have HCP : Hid (Copied b0 y W1) := by show Copied _ _ _; rw [← HW1.out, ← HB0.out]; exact heap_alloc_new _ _
        have HBW : Hid (Below w.heap.size w W1) := by show Below _ _ _; rw [← HW1.out]; exact HB.out.alloc HB.out.size _
        have HPW : Hid (Pr g h w.heap.size S T st st W1) := by show Pr _ _ _ _ _ _ _ _; rw [← HW1.out]; exact HP.out.below ((Below.refl _ _).alloc (Nat.le_refl _) _)
        have HNS : Hid (∀ x, (x ∈ S ∨ x ∈ T) → x < b0) := by show ∀ x, _; intro x hx; rw [← HB0.out]; exact hx.elim (HP.out.a.there x) (HP.out.b.there x)
        have hbs : S ⊆ S := fun _ h => h
        have hbS : b0 ∉ S := fun e => by have := HNS.out b0 (.inl e); omega
        have hbT : b0 ∉ T := fun e => by have := HNS.out b0 (.inr e); omega
        have hzW := HBW.out.size
        clear hbs
        by_cases hk1 : y.kind = 1
        · have hkb1 : (y.kind == 1) = true := by simp [hk1]
          have HK : Hid (stKind st y = y.nn.foldl Wire.stNum st) := by show _ = _; simp [stKind, hk1]
          clear hk1
          go_wp2_with fail
          rw [HW1.out, HB0.out]
          clear e0 e1 e2 e3
          have hlen := HSY.out
          obtain ⟨hl1, hl2, hl3, _⟩ := hlen
          have hL := HLEN.out
          refine (lentI_any y.nn y.na y.nc W1 ((HIN.out.rn.below HBW.out).more HBW.out.size) hl1).mono ?_
          rintro e W2 ⟨gl, cap, rfl, hcap, hmax, hgl, hgl2, hrd2, hb2⟩
          have HP2 := Lib.hid (HPW.out.below hb2)
          have HBW2 := Lib.hid (HBW.out.trans (hb2.mono HBW.out.size))
          have hbW1 := HCP.out.lt
          have HCP2 := Lib.hid (HCP.out.below hb2)
          have hgS : gl ∉ S := fun e => by have := HNS.out gl (.inl e); omega
          have hgT : gl ∉ T := fun e => by have := HNS.out gl (.inr e); omega
          rw [ints_snoc] at hrd2
          have HRD2 := Lib.hid hrd2
          clear hrd2 hb2 hgl
          go_wp2_with fail
          refine (nums_any g S st y.nn (some ⟨gl, 0, none⟩) cap W2.heap.size W2 HP2.out.a (reads_first (by simp [ints]) HRD2.out) (fun ad e _ => by injection e with e; subst e; exact ⟨hgS, hgl2⟩) (by omega) HFY.out.vn).mono ?_
          rintro e W3 ⟨rfl, S3, hw3, hm3⟩
          have HP3 := Lib.hid (HP2.out.wr hw3 hm3 HBW2.out.size)
          have HBW3 := Lib.hid (HBW2.out.trans (hm3.below HP2.out.la HBW2.out.size))
          have HCP3 := Lib.hid (HCP2.out.mv hm3 hbS)
          have HRD3 := Lib.hid (reads_aside HRD2.out hm3 hgS hgl2)
          have hgl3 : gl < W3.heap.size := Nat.lt_of_lt_of_le hgl2 hm3.size
          clear hw3 hm3
          obtain ⟨n1, hn1⟩ : ∃ n1, y.nn.length = n1 := ⟨_, rfl⟩
          have HN1 := Lib.hid hn1
          have hn9 : n1 ≤ 9000 := by omega
          obtain ⟨st1, HST1⟩ : ∃ st1, Hid (y.nn.foldl Wire.stNum st = st1) := ⟨_, rfl⟩
          rw [HST1.out] at HP3
          have hfl : (y.nn.foldl Wire.stNum st).2.length ≤ st.2.length + 10 * n1 := by have := Wire.stNum_len st y.nn; omega
          clear hn1 hl1 hl2 hl3
          go_wp2
          go_loopw [10] (fun i wr => ∃ (a : Nat) (T' : List Nat) (st2 : Wire.St), a ≤ n1 ∧ i = .int .i64 a ∧ Hid ((y.nn.take a).foldl Wire.stNum st = st2) ∧ Hid (Pr g h w.heap.size S3 T' st1 st2 wr) ∧ Hid (Mv T T' W3 wr)) (fun i _ => n1 - (intOf i).toNat)
          case atStart => exact ⟨0, T, st, Nat.zero_le _, rfl, rfl, HP3.out, Mv.refl _ _⟩
          case round =>
            obtain ⟨a, T', st2, ha, rfl, HT2, HPL, HML⟩ := hrel
            have hcp := HCP3.out.mv HML.out hbT
            have c1 := hcp.at1
            rw [HN1.out] at c1
            have hbb := HML.out.below (B := w.heap.size) HPW.out.lb HBW3.out.size
            have HBL := Lib.hid (HBW3.out.trans hbb)
            clear hcp hbb
            by_cases hla : a < n1
            · obtain ⟨nad, v, hna, hnab, hav, hcv⟩ := int_at HIN.out.rn (show a < y.nn.length by rw [HN1.out]; exact hla)
              have c2 : wr.cell? (nad.add a) = some (.int .i64 v) := (HBL.out.cell (by rw [block_of_add]; exact hnab)).trans hcv
              rw [hna] at c1
              have hvv := HFY.out.vn v (List.mem_of_getElem? hav)
              have HAV := Lib.hid hav
              have hl2 : st2.2.length ≤ st.2.length + 10 * 9000 := by
                have h1 := Wire.stNum_len st (y.nn.take a)
                rw [HT2.out] at h1
                have h2 : (y.nn.take a).length ≤ 9000 := by rw [List.length_take]; omega
                omega
              clear hna hnab hav hcv
              go_wp2_with fail
              refine (rwnum_any h T' st2 v hvv.1 hvv.2 wr HPL.out.b (by omega)).mono ?_
              rintro e w4 ⟨rfl, T4, hw4, hm4⟩
              have HP4 := Lib.hid (HPL.out.rw' hw4 hm4 HBL.out.size)
              have HM4 := Lib.hid (HML.out.trans hm4)
              clear hw4 hm4 c1 c2 hl2
              go_wp2
              go_roundw
              case rel => exact ⟨a + 1, T4, _, hla, by go_num, by show _ = _; rw [foldl_snoc Wire.stNum st HAV.out, HT2.out], HP4.out, HM4.out⟩
              case measure => simp [intOf]; omega
            · obtain rfl : a = n1 := by omega
              have hst := HT2.out
              rw [List.take_of_length_le (by rw [HN1.out]; exact Nat.le_refl _), HST1.out] at hst
              subst hst
              have hRL := reads_aside HRD3.out HML.out hgT hgl3
              rw [← ints_snoc] at hRL
              have SA := staysI_any y.nn gl cap y.na y.nc wr hcap hRL ((HIN.out.rn.below HBL.out).more HBL.out.size) (by rw [HN1.out]; omega) hmax
              rw [HN1.out] at SA
              clear hRL
              have HPQ : Hid (Pr g h w.heap.size S3 T' st1 st1 wr) := HPL
              go_wp2_with fail
              rw [HN1.out]
              refine SA.mono ?_
              rintro e w5 ⟨rfl, qq, rfl⟩
              have HPZ : Hid (Pr g h w.heap.size S3 T' st1 st1 (wr.drewN qq)) := HPQ.out.below (drewN_below (Below.refl _ _) _)
              have HBZ : Hid (Below w.heap.size w (wr.drewN qq)) := drewN_below HBL.out _
              have HK2 : Hid (stKind st y = st1) := by show _ = _; rw [HK.out, HST1.out]
              clear SA HK c1 HPL
              have HK := HK2
              clear HK2
              obtain ⟨er, her⟩ : ∃ er, (st1).1 = er := ⟨_, rfl⟩
              obtain ⟨bs, hbs⟩ : ∃ bs : ByteArray, (⟨(bytesOf (st1)).toArray⟩ : ByteArray) = bs := ⟨_, rfl⟩
              have BY := bytes_any g S3 (st1) _ (HPZ).out.a
              have BR := rwbytes_any h T' (st1) _ (HPZ).out.b
              have CA := (HPZ).out.a.cell0
              have CB := (HPZ).out.b.cell1
              rw [her] at BY BR CA CB
              rw [hbs] at BY BR
              clear her hbs
              go_wp2_with fail
              refine BY.mono ?_
              rintro e w8 ⟨rfl, rfl⟩
              go_wp2_with fail
              refine BR.mono ?_
              rintro e w9 ⟨rfl, q, rfl⟩
              have CA2 := fun m => wrong_any g er (wr.drewN m) CA
              have CB2 : wr.cell? ⟨h, 1, none⟩ = some (.int .i64 er) := CB
              clear BY BR CA CB
              go_wp2
              go_region_held3 (fun V => V.cell? ⟨h, 1, none⟩ = some (.int .i64 er))
                (first | exact CB2)
                (first | (go_at_call 17; (with_reducible refine (CA2 _).mono ?_); rintro e w10 ⟨rfl, rfl⟩))
              go_wp2
              go_roundw
              case rel =>
                refine ⟨k + 1, st1, S3, T', hlt, by go_num, ?_, ?_, ?_⟩
                · show _ ≤ _
                  have h1 := stKind_len HSY.out st
                  rw [HK.out] at h1
                  exact len_up h1 HLEN.out
                · exact (HPQ).out.below (drewN_below (Below.refl _ _) _)
                · exact drewN_below (HBL).out _
              case measure => simp [intOf]; omega
        · have hkb1 : (y.kind == 1) = false := beq_false_of_ne hk1
          by_cases hk2 : y.kind = 2
          · have hkb2 : (y.kind == 2) = true := by simp [hk2]
            have HK : Hid (stKind st y = (y.tt.map (·.data.toList)).foldl Wire.stText st) := by show _ = _; simp [stKind, hk2]
            clear hk1 hk2
            go_wp2_with fail
            rw [HW1.out, HB0.out]
            clear e0 e1 e2 e3
            have hlen := HSY.out
            obtain ⟨hl1, hl2, hl3, _⟩ := hlen
            have hL := HLEN.out
            refine (lentT_any y.tt y.ta y.tc W1 ((HIN.out.rt.below HBW.out).more HBW.out.size) hl2).mono ?_
            rintro e W2 ⟨gl, cap, rfl, hcap, hmax, hgl, hgl2, hrd2, hb2⟩
            have HP2 := Lib.hid (HPW.out.below hb2)
            have HBW2 := Lib.hid (HBW.out.trans (hb2.mono HBW.out.size))
            have hbW1 := HCP.out.lt
            have HCP2 := Lib.hid (HCP.out.below hb2)
            have hgS : gl ∉ S := fun e => by have := HNS.out gl (.inl e); omega
            have hgT : gl ∉ T := fun e => by have := HNS.out gl (.inr e); omega
            rw [strs_snoc] at hrd2
            have HRD2 := Lib.hid hrd2
            clear hrd2 hb2 hgl
            go_wp2_with fail
            refine (texts_any g S st y.tt (some ⟨gl, 0, none⟩) cap W2.heap.size W2 HP2.out.a (reads_first (by simp [strs]) HRD2.out) (fun ad e _ => by injection e with e; subst e; exact ⟨hgS, hgl2⟩) (by omega) HFY.out.vt).mono ?_
            rintro e W3 ⟨rfl, S3, hw3, hm3⟩
            have HP3 := Lib.hid (HP2.out.wr hw3 hm3 HBW2.out.size)
            have HBW3 := Lib.hid (HBW2.out.trans (hm3.below HP2.out.la HBW2.out.size))
            have HCP3 := Lib.hid (HCP2.out.mv hm3 hbS)
            have HRD3 := Lib.hid (reads_aside HRD2.out hm3 hgS hgl2)
            have hgl3 : gl < W3.heap.size := Nat.lt_of_lt_of_le hgl2 hm3.size
            clear hw3 hm3
            obtain ⟨n1, hn1⟩ : ∃ n1, y.tt.length = n1 := ⟨_, rfl⟩
            have HN1 := Lib.hid hn1
            have hn9 : n1 ≤ 9000 := by omega
            obtain ⟨st1, HST1⟩ : ∃ st1, Hid ((y.tt.map (·.data.toList)).foldl Wire.stText st = st1) := ⟨_, rfl⟩
            rw [HST1.out] at HP3
            have hfl : ((y.tt.map (·.data.toList)).foldl Wire.stText st).2.length ≤ st.2.length + 1010 * n1 := by have := Wire.stText_len st (y.tt.map (·.data.toList)); rw [List.length_map] at this; omega
            clear hn1 hl1 hl2 hl3
            go_wp2
            go_loopw [12] (fun i wr => ∃ (a : Nat) (T' : List Nat) (st2 : Wire.St), a ≤ n1 ∧ i = .int .i64 a ∧ Hid (((y.tt.map (·.data.toList)).take a).foldl Wire.stText st = st2) ∧ Hid (Pr g h w.heap.size S3 T' st1 st2 wr) ∧ Hid (Mv T T' W3 wr)) (fun i _ => n1 - (intOf i).toNat)
            case atStart => exact ⟨0, T, st, Nat.zero_le _, rfl, rfl, HP3.out, Mv.refl _ _⟩
            case round =>
              obtain ⟨a, T', st2, ha, rfl, HT2, HPL, HML⟩ := hrel
              have hcp := HCP3.out.mv HML.out hbT
              have c1 := hcp.at2
              rw [HN1.out] at c1
              have hbb := HML.out.below (B := w.heap.size) HPW.out.lb HBW3.out.size
              have HBL := Lib.hid (HBW3.out.trans hbb)
              clear hcp hbb
              by_cases hla : a < n1
              · obtain ⟨nad, v, hna, hnab, hav, hcv⟩ := str_at HIN.out.rt (show a < y.tt.length by rw [HN1.out]; exact hla)
                have c2 : wr.cell? (nad.add a) = some (.string v) := (HBL.out.cell (by rw [block_of_add]; exact hnab)).trans hcv
                rw [hna] at c1
                have hvv := HFY.out.vt v (List.mem_of_getElem? hav)
                have HAV := Lib.hid hav
                have hl2 : st2.2.length ≤ st.2.length + 1010 * 9000 := by
                  have h1 := Wire.stText_len st ((y.tt.map (·.data.toList)).take a)
                  rw [HT2.out] at h1
                  have h2 : (y.tt.take a).length ≤ 9000 := by rw [List.length_take]; omega
                  rw [← List.map_take, List.length_map] at h1; omega
                clear hna hnab hav hcv
                go_wp2_with fail
                refine (rwtext_any h T' st2 v hvv wr HPL.out.b (by omega)).mono ?_
                rintro e w4 ⟨rfl, T4, hw4, hm4⟩
                have HP4 := Lib.hid (HPL.out.rw' hw4 hm4 HBL.out.size)
                have HM4 := Lib.hid (HML.out.trans hm4)
                clear hw4 hm4 c1 c2 hl2
                go_wp2
                go_roundw
                case rel => exact ⟨a + 1, T4, _, hla, by go_num, by show _ = _; rw [foldl_snoc Wire.stText st (u := v.data.toList) (by rw [List.getElem?_map, HAV.out]; rfl), HT2.out], HP4.out, HM4.out⟩
                case measure => simp [intOf]; omega
              · obtain rfl : a = n1 := by omega
                have hst := HT2.out
                rw [List.take_of_length_le (by rw [List.length_map]; rw [HN1.out]; exact Nat.le_refl _), HST1.out] at hst
                subst hst
                have hRL := reads_aside HRD3.out HML.out hgT hgl3
                rw [← strs_snoc] at hRL
                have SA := staysT_any y.tt gl cap y.ta y.tc wr hcap hRL ((HIN.out.rt.below HBL.out).more HBL.out.size) (by rw [HN1.out]; omega) hmax
                rw [HN1.out] at SA
                clear hRL
                have HPQ : Hid (Pr g h w.heap.size S3 T' st1 st1 wr) := HPL
                go_wp2_with fail
                rw [HN1.out]
                refine SA.mono ?_
                rintro e w5 ⟨rfl, qq, rfl⟩
                have HPZ : Hid (Pr g h w.heap.size S3 T' st1 st1 (wr.drewN qq)) := HPQ.out.below (drewN_below (Below.refl _ _) _)
                have HBZ : Hid (Below w.heap.size w (wr.drewN qq)) := drewN_below HBL.out _
                have HK2 : Hid (stKind st y = st1) := by show _ = _; rw [HK.out, HST1.out]
                clear SA HK c1 HPL
                have HK := HK2
                clear HK2
                obtain ⟨er, her⟩ : ∃ er, (st1).1 = er := ⟨_, rfl⟩
                obtain ⟨bs, hbs⟩ : ∃ bs : ByteArray, (⟨(bytesOf (st1)).toArray⟩ : ByteArray) = bs := ⟨_, rfl⟩
                have BY := bytes_any g S3 (st1) _ (HPZ).out.a
                have BR := rwbytes_any h T' (st1) _ (HPZ).out.b
                have CA := (HPZ).out.a.cell0
                have CB := (HPZ).out.b.cell1
                rw [her] at BY BR CA CB
                rw [hbs] at BY BR
                clear her hbs
                go_wp2_with fail
                refine BY.mono ?_
                rintro e w8 ⟨rfl, rfl⟩
                go_wp2_with fail
                refine BR.mono ?_
                rintro e w9 ⟨rfl, q, rfl⟩
                have CA2 := fun m => wrong_any g er (wr.drewN m) CA
                have CB2 : wr.cell? ⟨h, 1, none⟩ = some (.int .i64 er) := CB
                clear BY BR CA CB
                go_wp2
                go_region_held3 (fun V => V.cell? ⟨h, 1, none⟩ = some (.int .i64 er))
                  (first | exact CB2)
                  (first | (go_at_call 17; (with_reducible refine (CA2 _).mono ?_); rintro e w10 ⟨rfl, rfl⟩))
                go_wp2
                go_roundw
                case rel =>
                  refine ⟨k + 1, st1, S3, T', hlt, by go_num, ?_, ?_, ?_⟩
                  · show _ ≤ _
                    have h1 := stKind_len HSY.out st
                    rw [HK.out] at h1
                    exact len_up h1 HLEN.out
                  · exact (HPQ).out.below (drewN_below (Below.refl _ _) _)
                  · exact drewN_below (HBL).out _
                case measure => simp [intOf]; omega
          · have hkb2 : (y.kind == 2) = false := beq_false_of_ne hk2
            by_cases hk3 : y.kind = 3
            · have hkb3 : (y.kind == 3) = true := by simp [hk3]
              have HK : Hid (stKind st y = y.bb.foldl Wire.stBool st) := by show _ = _; simp [stKind, hk3]
              clear hk1 hk2 hk3
              go_wp2_with fail
              rw [HW1.out, HB0.out]
              clear e0 e1 e2 e3
              have hlen := HSY.out
              obtain ⟨hl1, hl2, hl3, _⟩ := hlen
              have hL := HLEN.out
              have c3 := HCP.out.at3
              refine (bools_any g S st y.bb y.ba y.bc w.heap.size W1 HPW.out.a (HIN.out.rb.below HBW.out) (HIN.out.apart HBW.out HPW.out.la HBW.out.size).2.2 (by omega)).mono ?_
              rintro e W3 ⟨rfl, S3, hw3, hm3⟩
              have HP3 := Lib.hid (HPW.out.wr hw3 hm3 HBW.out.size)
              have HBW3 := Lib.hid (HBW.out.trans (hm3.below HPW.out.la HBW.out.size))
              have HCP3 := Lib.hid (HCP.out.mv hm3 hbS)
              clear hw3 hm3 c3
              obtain ⟨n1, hn1⟩ : ∃ n1, y.bb.length = n1 := ⟨_, rfl⟩
              have HN1 := Lib.hid hn1
              have hn9 : n1 ≤ 9000 := by omega
              obtain ⟨st1, HST1⟩ : ∃ st1, Hid (y.bb.foldl Wire.stBool st = st1) := ⟨_, rfl⟩
              rw [HST1.out] at HP3
              clear hn1 hl1 hl2 hl3
              go_wp2
              go_loopw [13] (fun i wr => ∃ (a : Nat) (T' : List Nat) (st2 : Wire.St), a ≤ n1 ∧ i = .int .i64 a ∧ Hid ((y.bb.take a).foldl Wire.stBool st = st2) ∧ Hid (Pr g h w.heap.size S3 T' st1 st2 wr) ∧ Hid (Mv T T' W3 wr)) (fun i _ => n1 - (intOf i).toNat)
              case atStart => exact ⟨0, T, st, Nat.zero_le _, rfl, rfl, HP3.out, Mv.refl _ _⟩
              case round =>
                obtain ⟨a, T', st2, ha, rfl, HT2, HPL, HML⟩ := hrel
                have hcp := HCP3.out.mv HML.out hbT
                have c1 := hcp.at3
                rw [HN1.out] at c1
                have hbb := HML.out.below (B := w.heap.size) HPW.out.lb HBW3.out.size
                have HBL := Lib.hid (HBW3.out.trans hbb)
                clear hcp hbb
                by_cases hla : a < n1
                · obtain ⟨nad, v, hna, hnab, hav, hcv⟩ := bool_at HIN.out.rb (show a < y.bb.length by rw [HN1.out]; exact hla)
                  have c2 : wr.cell? (nad.add a) = some (.bool v) := (HBL.out.cell (by rw [block_of_add]; exact hnab)).trans hcv
                  rw [hna] at c1
                  have HAV := Lib.hid hav
                  have hl2 : st2.2.length ≤ st.2.length + 9000 := by
                    have h1 := Wire.stBool_len st (y.bb.take a)
                    rw [HT2.out] at h1
                    have h2 : (y.bb.take a).length ≤ 9000 := by rw [List.length_take]; omega
                    omega
                  clear hna hnab hav hcv
                  go_wp2_with fail
                  refine (rwbool_any h T' st2 v wr HPL.out.b (by omega)).mono ?_
                  rintro e w4 ⟨rfl, T4, hw4, hm4⟩
                  have HP4 := Lib.hid (HPL.out.rw' hw4 hm4 HBL.out.size)
                  have HM4 := Lib.hid (HML.out.trans hm4)
                  clear hw4 hm4 c1 c2 hl2
                  go_wp2
                  go_roundw
                  case rel => exact ⟨a + 1, T4, _, hla, by go_num, by show _ = _; rw [foldl_snoc Wire.stBool st HAV.out, HT2.out], HP4.out, HM4.out⟩
                  case measure => simp [intOf]; omega
                · obtain rfl : a = n1 := by omega
                  have hst := HT2.out
                  rw [List.take_of_length_le (by rw [HN1.out]; exact Nat.le_refl _), HST1.out] at hst
                  subst hst
                  have HPQ : Hid (Pr g h w.heap.size S3 T' st1 st1 wr) := HPL
                  have HK2 : Hid (stKind st y = st1) := by show _ = _; rw [HK.out, HST1.out]
                  clear HK HPL
                  have HK := HK2
                  clear HK2
                  obtain ⟨er, her⟩ : ∃ er, (st1).1 = er := ⟨_, rfl⟩
                  obtain ⟨bs, hbs⟩ : ∃ bs : ByteArray, (⟨(bytesOf (st1)).toArray⟩ : ByteArray) = bs := ⟨_, rfl⟩
                  have BY := bytes_any g S3 (st1) _ (HPQ).out.a
                  have BR := rwbytes_any h T' (st1) _ (HPQ).out.b
                  have CA := (HPQ).out.a.cell0
                  have CB := (HPQ).out.b.cell1
                  rw [her] at BY BR CA CB
                  rw [hbs] at BY BR
                  clear her hbs
                  go_wp2_with fail
                  clear c1
                  refine BY.mono ?_
                  rintro e w8 ⟨rfl, rfl⟩
                  go_wp2_with fail
                  refine BR.mono ?_
                  rintro e w9 ⟨rfl, q, rfl⟩
                  have CA2 := fun m => wrong_any g er (wr.drewN m) CA
                  have CB2 : wr.cell? ⟨h, 1, none⟩ = some (.int .i64 er) := CB
                  clear BY BR CA CB
                  go_wp2
                  go_region_held3 (fun V => V.cell? ⟨h, 1, none⟩ = some (.int .i64 er))
                    (first | exact CB2)
                    (first | (go_at_call 17; (with_reducible refine (CA2 _).mono ?_); rintro e w10 ⟨rfl, rfl⟩))
                  go_wp2
                  go_roundw
                  case rel =>
                    refine ⟨k + 1, st1, S3, T', hlt, by go_num, ?_, ?_, ?_⟩
                    · show _ ≤ _
                      have h1 := stKind_len HSY.out st
                      rw [HK.out] at h1
                      exact len_up h1 HLEN.out
                    · exact (HPQ).out.below (drewN_below (Below.refl _ _) _)
                    · exact drewN_below (HBL).out _
                  case measure => simp [intOf]; omega
            · have hkb3 : (y.kind == 3) = false := beq_false_of_ne hk3
              by_cases hk4 : y.kind = 4
              · have hkb4 : (y.kind == 4) = true := by simp [hk4]
                have HK : Hid (stKind st y = y.nn.foldl Wire.stFail st) := by show _ = _; simp [stKind, hk4]
                clear hk1 hk2 hk3 hk4
                go_wp2
                rw [HW1.out, HB0.out]
                clear e0 e1 e2 e3
                have hL := HLEN.out
                obtain ⟨n1, hn1⟩ : ∃ n1, y.nn.length = n1 := ⟨_, rfl⟩
                have HN1 := Lib.hid hn1
                have hn9 : n1 ≤ 9000 := by have := HSY.out.1; omega
                obtain ⟨st1, HST1⟩ : ∃ st1, Hid (y.nn.foldl Wire.stFail st = st1) := ⟨_, rfl⟩
                clear hn1
                go_loopw [14] (fun i wr => ∃ (a : Nat) (S' T' : List Nat) (st2 : Wire.St), a ≤ n1 ∧ i = .int .i64 a ∧ Hid ((y.nn.take a).foldl Wire.stFail st = st2) ∧ Hid (Pr g h w.heap.size S' T' st2 st2 wr) ∧ Hid (Mv (S ++ T) (S' ++ T') W1 wr)) (fun i _ => n1 - (intOf i).toNat)
                case atStart => exact ⟨0, S, T, st, Nat.zero_le _, rfl, rfl, HPW.out, Mv.refl _ _⟩
                case round =>
                  obtain ⟨a, S', T', st2, ha, rfl, HT2, HPL, HML⟩ := hrel
                  have hcp := HCP.out.mv HML.out (by intro e; exact (List.mem_append.1 e).elim hbS hbT)
                  have HCPL := Lib.hid hcp
                  have c1 := hcp.at1
                  rw [HN1.out] at c1
                  have hbb := HML.out.below (B := w.heap.size) (fun k hk => (List.mem_append.1 hk).elim (HPW.out.la k) (HPW.out.lb k)) HBW.out.size
                  have HBL := Lib.hid (HBW.out.trans hbb)
                  have hb0S : b0 ∉ S' ++ T' := fun e => (HML.out.link b0 e).elim (fun e => (List.mem_append.1 e).elim hbS hbT) (fun e => by have := HCP.out.lt; omega)
                  clear hcp hbb
                  by_cases hla : a < n1
                  · obtain ⟨nad, v, hna, hnab, hav, hcv⟩ := int_at HIN.out.rn (show a < y.nn.length by rw [HN1.out]; exact hla)
                    have HCV : Hid (∀ V, Below w.heap.size w V → V.cell? (nad.add a) = some (.int .i64 v)) := fun V hV => (hV.cell (by rw [block_of_add]; exact hnab)).trans hcv
                    have c2 := HCV.out wr HBL.out
                    rw [hna] at c1
                    have HNA := Lib.hid hna
                    have HAV := Lib.hid hav
                    have WF := wfail_any g S' st2 v wr.drew HPL.out.a
                    clear hnab hav hcv hna
                    go_wp2
                    go_region_held3 (fun V => V.cell? ⟨b0, 1, none⟩ = some (.slice (some nad) n1 y.nc) ∧ V.cell? (nad.add a) = some (.int .i64 v))
                      (first | exact ⟨c1, c2⟩ | exact ⟨d1, d2⟩)
                      (first | (go_at_call 28; (with_reducible refine WF.mono ?_); rintro e w4 ⟨rfl, S4, hw4, hm4⟩; have d1 : w4.cell? ⟨b0, 1, none⟩ = some (.slice (some nad) n1 y.nc) := (by have h1 := (Copied.mv (w := wr.drew) HCPL.out hm4 (fun e => hb0S (List.mem_append.2 (.inl e)))).at1; rw [HN1.out, HNA.out] at h1; exact h1); have d2 := HCV.out w4 (HBL.out.drew.trans (hm4.below HPL.out.la HBL.out.size))))
                    have HP4 := Lib.hid (Pr.wr (w := wr.drew) (HPL.out.below ((Below.refl _ _).drew)) hw4 hm4 HBL.out.size)
                    have HM4 := Lib.hid ((HML.out.drewN 1).trans (Mv.app_l (T := T') hm4))
                    have HB4 := Lib.hid (HBL.out.drew.trans (hm4.below HPL.out.la HBL.out.size))
                    clear hw4 hm4 c1 c2 WF
                    go_wp2_with fail
                    refine (rwfail_any h T' st2 v w4 HP4.out.b).mono ?_
                    rintro e w5 ⟨rfl, T5, hw5, hm5⟩
                    have HP5 := Lib.hid (HP4.out.rw' hw5 hm5 HB4.out.size)
                    have HM5 := Lib.hid (HM4.out.trans (Mv.app_r (S := S4) hm5))
                    clear hw5 hm5 d1 d2
                    go_wp2
                    go_roundw
                    case rel => exact ⟨a + 1, S4, T5, _, hla, by go_num, by show _ = _; rw [foldl_snoc Wire.stFail st HAV.out, HT2.out], HP5.out, HM5.out⟩
                    case measure => simp [intOf]; omega
                  · obtain rfl : a = n1 := by omega
                    have hst := HT2.out
                    rw [List.take_of_length_le (by rw [HN1.out]; exact Nat.le_refl _), HST1.out] at hst
                    subst hst
                    have HPQ : Hid (Pr g h w.heap.size S' T' st1 st1 wr) := HPL
                    have HK2 : Hid (stKind st y = st1) := by show _ = _; rw [HK.out, HST1.out]
                    clear HK HPL
                    have HK := HK2
                    clear HK2
                    obtain ⟨er, her⟩ : ∃ er, (st1).1 = er := ⟨_, rfl⟩
                    obtain ⟨bs, hbs⟩ : ∃ bs : ByteArray, (⟨(bytesOf (st1)).toArray⟩ : ByteArray) = bs := ⟨_, rfl⟩
                    have BY := bytes_any g S' (st1) _ (HPQ).out.a
                    have BR := rwbytes_any h T' (st1) _ (HPQ).out.b
                    have CA := (HPQ).out.a.cell0
                    have CB := (HPQ).out.b.cell1
                    rw [her] at BY BR CA CB
                    rw [hbs] at BY BR
                    clear her hbs
                    go_wp2_with fail
                    clear c1
                    refine BY.mono ?_
                    rintro e w8 ⟨rfl, rfl⟩
                    go_wp2_with fail
                    refine BR.mono ?_
                    rintro e w9 ⟨rfl, q, rfl⟩
                    have CA2 := fun m => wrong_any g er (wr.drewN m) CA
                    have CB2 : wr.cell? ⟨h, 1, none⟩ = some (.int .i64 er) := CB
                    clear BY BR CA CB
                    go_wp2
                    go_region_held3 (fun V => V.cell? ⟨h, 1, none⟩ = some (.int .i64 er))
                      (first | exact CB2)
                      (first | (go_at_call 17; (with_reducible refine (CA2 _).mono ?_); rintro e w10 ⟨rfl, rfl⟩))
                    go_wp2
                    go_roundw
                    case rel =>
                      refine ⟨k + 1, st1, S', T', hlt, by go_num, ?_, ?_, ?_⟩
                      · show _ ≤ _
                        have h1 := stKind_len HSY.out st
                        rw [HK.out] at h1
                        exact len_up h1 HLEN.out
                      · exact (HPQ).out.below (drewN_below (Below.refl _ _) _)
                      · exact drewN_below (HBL).out _
                    case measure => simp [intOf]; omega
              · have hkb4 : (y.kind == 4) = false := beq_false_of_ne hk4
                have HK : Hid (stKind st y = st) := by show _ = _; simp [stKind, hk1, hk2, hk3, hk4]
                clear hk1 hk2 hk3 hk4
                go_wp2_with fail
                rw [HW1.out, HB0.out]
                clear e0 e1 e2 e3
                obtain ⟨er, her⟩ : ∃ er, (st).1 = er := ⟨_, rfl⟩
                obtain ⟨bs, hbs⟩ : ∃ bs : ByteArray, (⟨(bytesOf (st)).toArray⟩ : ByteArray) = bs := ⟨_, rfl⟩
                have BY := bytes_any g S (st) _ (HPW).out.a
                have BR := rwbytes_any h T (st) _ (HPW).out.b
                have CA := (HPW).out.a.cell0
                have CB := (HPW).out.b.cell1
                rw [her] at BY BR CA CB
                rw [hbs] at BY BR
                clear her hbs
                refine BY.mono ?_
                rintro e w8 ⟨rfl, rfl⟩
                go_wp2_with fail
                refine BR.mono ?_
                rintro e w9 ⟨rfl, q, rfl⟩
                have CA2 := fun m => wrong_any g er (W1.drewN m) CA
                have CB2 : W1.cell? ⟨h, 1, none⟩ = some (.int .i64 er) := CB
                clear BY BR CA CB
                go_wp2
                go_region_held3 (fun V => V.cell? ⟨h, 1, none⟩ = some (.int .i64 er))
                  (first | exact CB2)
                  (first | (go_at_call 17; (with_reducible refine (CA2 _).mono ?_); rintro e w10 ⟨rfl, rfl⟩))
                go_wp2
                go_roundw
                case rel =>
                  refine ⟨k + 1, st, S, T, hlt, by go_num, ?_, ?_, ?_⟩
                  · show _ ≤ _
                    have h1 := stKind_len HSY.out st
                    rw [HK.out] at h1
                    exact len_up h1 HLEN.out
                  · exact (HPW).out.below (drewN_below (Below.refl _ _) _)
                  · exact drewN_below (HBW).out _
                case measure => simp [intOf]; omega
      · obtain rfl : k = n := by omega
        go_wp2_with fail
        refine (alive3_any _).mono ?_
        rintro e w7 ⟨rfl, hB7⟩
        go_wp2
        go_ret
        exact ⟨rfl, HB.out.trans (hB7.mono HB.out.size)⟩
end Go.Proofs.Ytfjdcmhhnknojaa
