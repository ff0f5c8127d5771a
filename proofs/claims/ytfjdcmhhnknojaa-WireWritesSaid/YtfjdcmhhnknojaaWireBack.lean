/-
  The walk of WireBack: what was written is read as it was, to its end.
  Conditions: steps in memory.
-/
import Derived.Test.YtfjdcmhhnknojaaWireBackPlain
import Derived.Test.YtfjdcmhhnknojaaWLight
namespace Go.Proofs.Ytfjdcmhhnknojaa
open Go.RowKit

def WOp.op3 (x : WOp) : Wire.Op3 := (x.nn, x.tt.map (·.data.toList), x.bb)
theorem WOp.len3 {x : WOp} (h : x.Short) (st : Wire.St) : (Wire.stOp st x.op3).2.length ≤ st.2.length + 9189000 := by
  have := Wire.stOp_len st x.op3
  obtain ⟨h1, h2, h3, _⟩ := h
  have e1 : x.op3.1.length = x.nn.length := rfl
  have e2 : x.op3.2.1.length = x.tt.length := List.length_map _
  have e3 : x.op3.2.2.length = x.bb.length := rfl
  omega
/-- Where an op's list lies. -/
theorem WOp.In.apart {x : WOp} {w w' : World} {B : Nat} {S : List Nat} (h : x.In w B) (_ : Below B w w') (hS : ∀ k ∈ S, B ≤ k) (hB : B ≤ w'.heap.size) :
    (∀ ad, x.na = some ad → 0 < x.nn.length → ad.block ∉ S ∧ ad.block < w'.heap.size) ∧ (∀ ad, x.ta = some ad → 0 < x.tt.length → ad.block ∉ S ∧ ad.block < w'.heap.size) ∧ (∀ ad, x.ba = some ad → 0 < x.bb.length → ad.block ∉ S ∧ ad.block < w'.heap.size) := by
  have g : ∀ (b : Nat), b < B → b ∉ S ∧ b < w'.heap.size := fun b hb' => ⟨fun e => by have := hS b e; omega, by omega⟩
  refine ⟨fun ad e hn => ?_, fun ad e hn => ?_, fun ad e hn => ?_⟩
  · obtain ⟨ad', e', hlt, _⟩ := h.rn.2 hn
    rw [e] at e'; injection e' with e'; subst e'
    exact g _ hlt
  · obtain ⟨ad', e', hlt, _⟩ := h.rt.2 hn
    rw [e] at e'; injection e' with e'; subst e'
    exact g _ hlt
  · obtain ⟨ad', e', hlt, _⟩ := h.rb.2 hn
    rw [e] at e'; injection e' with e'; subst e'
    exact g _ hlt
/-- One op is written: three calls. -/
def Wrote (g B : Nat) (S : List Nat) (st : Wire.St) (w : World) : Prop := WrAt g S st.1 st.2 w ∧ ∀ k ∈ S, B ≤ k

set_option maxHeartbeats 4000000 in
set_option maxRecDepth 10000 in
theorem wback_walk (l : List WOp) (A : Option Addr) (c : Nat) (w : World) (hr : WOpsAt w w.heap.size A l) (hl : l.length ≤ 9223372036854775807) (hf : ∀ x ∈ l, x.Fits) :
    Calls Try.prog 8 #[.slice A l.length c] w fun e w' => e = .returned (.bool true) ∧ Below w.heap.size w w' := by
  have HLT := light3_any l A c w hr hl hf
  obtain ⟨n, hn⟩ : ∃ n, l.length = n := ⟨_, rfl⟩
  rw [hn] at hl HLT ⊢
  have Hn := Lib.hid hn; have HR := Lib.hid hr; have HF := Lib.hid hf
  clear hn hr hf
  go_enter Try.func8, Try.ntmps8
  go_wp2_with fail
  refine HLT.mono ?_
  rintro e w1 ⟨⟨b, rfl, hb⟩, hB1⟩
  clear HLT
  cases b
  · go_wp2_with fail
    refine (alive3_any _).mono ?_
    rintro e w2 ⟨rfl, hB2⟩
    go_wp2
    go_ret
    exact ⟨rfl, hB1.trans (hB2.mono hB1.size)⟩
  · have HS := Lib.hid (hb rfl).2
    have h100 := (hb rfl).1
    rw [Hn.out] at h100
    clear hb
    go_wp2_with fail
    refine (newWriter_any _).mono ?_
    rintro e w2 ⟨rfl, hW2, hB2⟩
    have hz1 := hB1.size
    have HB2 := Lib.hid (hB1.trans (hB2.mono hz1))
    have HW2 : Hid (Wrote w1.heap.size w.heap.size [w1.heap.size] (0, []) w2) := ⟨hW2, fun k hk => by simp at hk; omega⟩
    clear hW2 hB2 hB1
    obtain ⟨g, hg⟩ : ∃ g, Hid (w1.heap.size = g) := ⟨_, rfl⟩
    rw [hg.out] at HW2 ⊢
    clear hz1
    go_wp2
    go_loopw [4] (fun i wr => ∃ (k : Nat) (st : Wire.St) (S : List Nat), k ≤ n ∧ i = .int .i64 k ∧ Hid (((l.map WOp.op3).take k).foldl Wire.stOp (0, []) = st) ∧ Hid (st.2.length ≤ k * 9189000) ∧ Hid (Wrote g w.heap.size S st wr) ∧ Hid (Below w.heap.size w wr)) (fun i _ => n - (intOf i).toNat)
    case atStart => exact ⟨0, (0, []), _, Nat.zero_le _, rfl, rfl, by show _ ≤ _; simp, HW2.out, HB2.out⟩
    case round =>
      obtain ⟨k, st, S, hk, rfl, HST, HLEN, HW, HB⟩ := hrel
      by_cases hlt : k < n
      · obtain ⟨ad, y, rfl, hab, hyk, hc, hin⟩ := HR.out.at_ (show k < l.length by rw [Hn.out]; exact hlt)
        have HFY := Lib.hid (HF.out y (List.mem_of_getElem? hyk))
        have HSY := Lib.hid (HS.out y (List.mem_of_getElem? hyk))
        have HIN := Lib.hid hin
        have HC : Hid (∀ V, Below w.heap.size w V → ∀ j v, y.cells[j]? = some v → V.cell? ((ad.add (k * 4)).add j) = some v) := fun V hV j v hj => (hV.cell (by rw [block_of_add, block_of_add]; exact hab)).trans (hc j v hj)
        have HY := Lib.hid hyk
        clear hyk hc hin
        have hlen := HSY.out
        obtain ⟨hl1, hl2, hl3, _⟩ := hlen
        have hL := HLEN.out
        have hk9 : k * 9189000 ≤ 909711000 := by have : k ≤ 99 := by omega
                                                 omega
        have c1 : wr.cell? ⟨(ad.add (k * 4)).block, (ad.add (k * 4)).off + 1, none⟩ = some (.slice y.na y.nn.length y.nc) := HC.out _ HB.out 1 _ rfl
        go_wp2_with fail
        refine (nums_any g S st y.nn y.na y.nc w.heap.size wr HW.out.1 (HIN.out.rn.below HB.out) (HIN.out.apart HB.out HW.out.2 HB.out.size).1 (by omega) HFY.out.vn).mono ?_
        rintro e w3 ⟨rfl, S3, hw3, hm3⟩
        have HB3 := Lib.hid (HB.out.trans (hm3.below HW.out.2 HB.out.size))
        have HS3 := Lib.hid (hm3.low HW.out.2 HB.out.size)
        have hL3 := Wire.stNum_len st y.nn
        have HW3 := Lib.hid hw3
        clear hw3 hm3 c1
        have c2 : w3.cell? ⟨(ad.add (k * 4)).block, (ad.add (k * 4)).off + 2, none⟩ = some (.slice y.ta y.tt.length y.tc) := HC.out _ HB3.out 2 _ rfl
        go_wp2_with fail
        refine (texts_any g S3 (y.nn.foldl Wire.stNum st) y.tt y.ta y.tc w.heap.size w3 HW3.out (HIN.out.rt.below HB3.out) (HIN.out.apart HB3.out HS3.out HB3.out.size).2.1 (by omega) HFY.out.vt).mono ?_
        rintro e w4 ⟨rfl, S4, hw4, hm4⟩
        have HB4 := Lib.hid (HB3.out.trans (hm4.below HS3.out HB3.out.size))
        have HS4 := Lib.hid (hm4.low HS3.out HB3.out.size)
        have hL4 := Wire.stText_len (y.nn.foldl Wire.stNum st) (y.tt.map (·.data.toList))
        rw [List.length_map] at hL4
        have HW4 := Lib.hid hw4
        clear hw4 hm4 c2
        have c3 : w4.cell? ⟨(ad.add (k * 4)).block, (ad.add (k * 4)).off + 3, none⟩ = some (.slice y.ba y.bb.length y.bc) := HC.out _ HB4.out 3 _ rfl
        go_wp2_with fail
        refine (bools_any g S4 _ y.bb y.ba y.bc w.heap.size w4 HW4.out (HIN.out.rb.below HB4.out) (HIN.out.apart HB4.out HS4.out HB4.out.size).2.2 (by omega)).mono ?_
        rintro e w5 ⟨rfl, S5, hw5, hm5⟩
        have HB5 := Lib.hid (HB4.out.trans (hm5.below HS4.out HB4.out.size))
        have HS5 := Lib.hid (hm5.low HS4.out HB4.out.size)
        have HW5 := Lib.hid hw5
        clear hw5 hm5 c3 hL3 hL4 hL hl1 hl2 hl3
        go_wp2
        go_roundw
        case rel =>
          refine ⟨k + 1, Wire.stOp st y.op3, S5, hlt, by go_num, ?_, ?_, ⟨HW5.out, HS5.out⟩, HB5.out⟩
          · show _ = _
            rw [foldl_snoc Wire.stOp (0, []) (u := y.op3) (by rw [List.getElem?_map, HY.out]; rfl), HST.out]
          · show _ ≤ _
            have h1 := WOp.len3 HSY.out st
            have h2 := HLEN.out
            omega
        case measure => simp [intOf]; omega
      · obtain rfl : k = n := by omega
        have hst := HST.out
        rw [List.take_of_length_le (by rw [List.length_map, Hn.out]; exact Nat.le_refl _)] at hst
        have hL := HLEN.out
        rcases Wire.stOps_two (l.map WOp.op3) [] with h2 | ⟨h2, h3⟩
        · rw [hst] at h2
          have hw := HW.out.1.cell0
          rw [h2] at hw
          clear hst h2
          go_wp2_with fail
          refine (bytes_err g 2 (by decide) wr hw).mono ?_
          rintro e w6 ⟨rfl, rfl⟩
          clear hw
          go_wp2_with fail
          refine (alive3_any _).mono ?_
          rintro e w7 ⟨rfl, hB7⟩
          go_wp2
          go_ret
          exact ⟨rfl, HB.out.trans (hB7.mono HB.out.size)⟩
        · rw [hst] at h2
          subst h2
          rw [List.nil_append] at HW hL
          have H3 := Lib.hid h3
          clear hst h3 HST HLEN
          go_wp2_with fail
          refine (bytes_ok g S _ wr HW.out.1).mono ?_
          obtain ⟨s, hs⟩ : ∃ s : ByteArray, s = ⟨(Wire.flatAll (l.map WOp.op3)).toArray⟩ := ⟨_, rfl⟩
          have hss : s.size ≤ 1000000000 := by rw [hs, bytes_size]; omega
          have HR0 : Hid (Rest s 0 (Wire.flatAll ((l.map WOp.op3).drop 0))) := ⟨Nat.zero_le _, by rw [hs]; rfl⟩
          rw [← hs]
          rintro e w6 ⟨rfl, rfl⟩
          clear hs HW hL
          go_wp2_with fail
          refine (newReader_any s wr hss).mono ?_
          rintro e w7 ⟨g2, rfl, hg2, hr7, hb7⟩
          have HG2 : w.heap.size ≤ g2 := Nat.le_trans HB.out.size hg2
          have HB7 := Lib.hid (HB.out.trans (hb7.mono HB.out.size))
          have HR7 := Lib.hid hr7
          clear hr7 hb7 hg2 HB
          go_wp2
          go_loopw [8, 9, 10, 11] (fun i _ _ _ wr => ∃ (m pos : Nat), m ≤ k ∧ i = .int .i64 m ∧ Hid (Rest s pos (Wire.flatAll ((l.map WOp.op3).drop m))) ∧ Hid (RdAt g2 0 s pos wr) ∧ Hid (Below w.heap.size w wr)) (fun i _ _ _ _ => k - (intOf i).toNat)
          case atStart => exact ⟨0, 0, Nat.zero_le _, rfl, HR0.out, HR7.out, HB7.out⟩
          case round =>
            obtain ⟨m, pos, hm, rfl, HP, HRD, HB⟩ := hrel
            by_cases hlt2 : m < k
            · obtain ⟨ad, y, rfl, hab, hym, hc, hin⟩ := HR.out.at_ (show m < l.length by rw [Hn.out]; exact hlt2)
              have HFY := Lib.hid (HF.out y (List.mem_of_getElem? hym))
              have HSY := Lib.hid (HS.out y (List.mem_of_getElem? hym))
              have hym3 : (l.map WOp.op3)[m]? = some y.op3 := by rw [List.getElem?_map, hym]; rfl
              have HTY := Lib.hid (fun t ht => H3.out y.op3 (List.mem_of_getElem? hym3) t ht)
              have HIN := Lib.hid hin
              have HC : Hid (∀ V, Below w.heap.size w V → ∀ j v, y.cells[j]? = some v → V.cell? ((ad.add (m * 4)).add j) = some v) := fun V hV j v hj => (hV.cell (by rw [block_of_add, block_of_add]; exact hab)).trans (hc j v hj)
              have hp := HP.out
              rw [Wire.flatAll_drop hym3] at hp
              obtain ⟨R3, HR3⟩ : ∃ R3, Hid (Wire.flatAll ((l.map WOp.op3).drop (m + 1)) = R3) := ⟨_, rfl⟩
              rw [HR3.out] at hp
              obtain ⟨n1, hn1⟩ : ∃ n1, y.nn.length = n1 := ⟨_, rfl⟩
              obtain ⟨n2, hn2⟩ : ∃ n2, y.tt.length = n2 := ⟨_, rfl⟩
              obtain ⟨n3, hn3⟩ : ∃ n3, y.bb.length = n3 := ⟨_, rfl⟩
              have hln := HFY.out.ln; have hlt' := HFY.out.lt; have hlb := HFY.out.lb
              rw [hn1] at hln; rw [hn2] at hlt'; rw [hn3] at hlb
              have HN1 := Lib.hid hn1; have HN2 := Lib.hid hn2; have HN3 := Lib.hid hn3
              have HC1 : Hid (∀ V, Below w.heap.size w V → V.cell? ⟨(ad.add (m * 4)).block, (ad.add (m * 4)).off + 1, none⟩ = some (.slice y.na n1 y.nc)) := fun V hV => by rw [← hn1]; exact HC.out V hV 1 _ rfl
              have HC2 : Hid (∀ V, Below w.heap.size w V → V.cell? ⟨(ad.add (m * 4)).block, (ad.add (m * 4)).off + 2, none⟩ = some (.slice y.ta n2 y.tc)) := fun V hV => by rw [← hn2]; exact HC.out V hV 2 _ rfl
              have HC3 : Hid (∀ V, Below w.heap.size w V → V.cell? ⟨(ad.add (m * 4)).block, (ad.add (m * 4)).off + 3, none⟩ = some (.slice y.ba n3 y.bc)) := fun V hV => by rw [← hn3]; exact HC.out V hV 3 _ rfl
              have HP1 := Lib.hid hp
              clear hym hym3 hin hc hp hn1 hn2 hn3 HP HC
              go_wp2
              go_loopw [9] (fun i ws => ∃ (a p : Nat), a ≤ n1 ∧ i = .int .i64 a ∧ Hid (Rest s p (Wire.flatN (y.nn.drop a) ++ (Wire.flatT (y.tt.map (·.data.toList)) ++ (Wire.flatB y.bb ++ R3)))) ∧ Hid (RdAt g2 0 s p ws) ∧ Hid (Below w.heap.size w ws)) (fun i _ => n1 - (intOf i).toNat)
              case atStart => exact ⟨0, pos, Nat.zero_le _, rfl, HP1.out, HRD.out, HB.out⟩
              case round =>
                clear HRD HB HP1
                obtain ⟨a, p, ha, rfl, HP, HRD, HB⟩ := hrel
                have c1 := HC1.out wr HB.out
                by_cases hla : a < n1
                · obtain ⟨nad, v, hna, hnab, hav, hcv⟩ := int_at HIN.out.rn (show a < y.nn.length by rw [HN1.out]; exact hla)
                  have HCV : Hid (∀ V, Below w.heap.size w V → V.cell? (nad.add a) = some (.int .i64 v)) := fun V hV => (hV.cell (by rw [block_of_add]; exact hnab)).trans hcv
                  rw [hna] at c1
                  have HCN : Hid (∀ V, Below w.heap.size w V → V.cell? ⟨(ad.add (m * 4)).block, (ad.add (m * 4)).off + 1, none⟩ = some (.slice (some nad) n1 y.nc)) := fun V hV => by rw [← hna]; exact HC1.out V hV
                  have hv := HFY.out.vn v (List.mem_of_getElem? hav)
                  have hp := HP.out
                  rw [Wire.flatN_drop hav, List.append_assoc] at hp
                  obtain ⟨p', hnt, hrest⟩ := rest_num hv.1 hv.2 hp
                  have HP' := Lib.hid hrest
                  have RN := rNum_any g2 s ⟨0, p⟩ wr.drew (HRD.out.drewN 1) (HP.out.1) hss
                  have hrd : rdNum s ⟨0, p⟩ = (v, ⟨0, p'⟩) := by
                    unfold rdNum
                    rw [hnt]
                    rfl
                  rw [hrd] at RN
                  clear hv hp hnt hrest hrd
                  clear hna hav hcv
                  have c2 := HCV.out wr HB.out
                  go_wp2
                  go_region_held3 (fun W => W.cell? ⟨(ad.add (m * 4)).block, (ad.add (m * 4)).off + 1, none⟩ = some (.slice (some nad) n1 y.nc) ∧ W.cell? (nad.add a) = some (.int .i64 v))
                    (first | exact ⟨c1, c2⟩ | exact ⟨HCN.out _ hB8, HCV.out _ hB8⟩)
                    (first | (go_at_call 18; (with_reducible refine RN.mono ?_); rintro e w8 ⟨rfl, hrd8, hm8⟩; have hB8 : Below w.heap.size w w8 := HB.out.drew.trans (hm8.below (fun j hj => by simp at hj; omega) HB.out.size)))
                  have HR8 := Lib.hid hrd8
                  have HB8 := Lib.hid hB8
                  clear hrd8 hm8 hB8 c1 c2 RN
                  go_wp2
                  go_roundw
                  case rel => exact ⟨a + 1, p', hla, by go_num, HP'.out, HR8.out, HB8.out⟩
                  case measure => simp [intOf]; omega
                · obtain rfl : a = n1 := by omega
                  have hp0 := HP.out
                  rw [List.drop_of_length_le (by rw [HN1.out]; exact Nat.le_refl _), show Wire.flatN [] = [] from rfl, List.nil_append] at hp0
                  have HP1 := Lib.hid hp0
                  clear hp0 HP
                  go_wp2
                  go_loopw [10] (fun i ws => ∃ (a p : Nat), a ≤ n2 ∧ i = .int .i64 a ∧ Hid (Rest s p (Wire.flatT ((y.tt.map (·.data.toList)).drop a) ++ (Wire.flatB y.bb ++ R3))) ∧ Hid (RdAt g2 0 s p ws) ∧ Hid (Below w.heap.size w ws)) (fun i _ => n2 - (intOf i).toNat)
                  case atStart => exact ⟨0, p, Nat.zero_le _, rfl, HP1.out, HRD.out, HB.out⟩
                  case round =>
                    clear HRD HB HP1
                    obtain ⟨a, p, ha, rfl, HP, HRD, HB⟩ := hrel
                    have c1 := HC2.out wr HB.out
                    by_cases hla : a < n2
                    · obtain ⟨nad, v, hna, hnab, hav, hcv⟩ := str_at HIN.out.rt (show a < y.tt.length by rw [HN2.out]; exact hla)
                      have HCV : Hid (∀ V, Below w.heap.size w V → V.cell? (nad.add a) = some (.string v)) := fun V hV => (hV.cell (by rw [block_of_add]; exact hnab)).trans hcv
                      rw [hna] at c1
                      have HCN : Hid (∀ V, Below w.heap.size w V → V.cell? ⟨(ad.add (m * 4)).block, (ad.add (m * 4)).off + 2, none⟩ = some (.slice (some nad) n2 y.tc)) := fun V hV => by rw [← hna]; exact HC2.out V hV
                      have hp := HP.out
                      have hm1 : (y.tt.map (·.data.toList))[a]? = some v.data.toList := by rw [List.getElem?_map, hav]; rfl
                      have h1000 : v.size ≤ 1000 := HTY.out v.data.toList (List.mem_of_getElem? hm1)
                      rw [Wire.flatT_drop hm1, List.append_assoc, List.append_assoc, show v.data.toList.length = v.size from Array.length_toList] at hp
                      obtain ⟨p', hnt, hk', hex, hrest⟩ := rest_text h1000 hp
                      have HP' := Lib.hid hrest
                      have RN := rText_ok g2 s p p' v.size wr.drew (HRD.out.drewN 1) (HP.out.1) hss hnt h1000 hk'
                      rw [hex] at RN
                      clear hp hm1 h1000 hnt hk' hex hrest
                      clear hna hav hcv
                      have c2 := HCV.out wr HB.out
                      go_wp2
                      go_region_held3 (fun W => W.cell? ⟨(ad.add (m * 4)).block, (ad.add (m * 4)).off + 2, none⟩ = some (.slice (some nad) n2 y.tc) ∧ W.cell? (nad.add a) = some (.string v))
                        (first | exact ⟨c1, c2⟩ | exact ⟨HCN.out _ hB8, HCV.out _ hB8⟩)
                        (first | (go_at_call 32; (with_reducible refine RN.mono ?_); rintro e w8 ⟨rfl, hrd8, hm8⟩; have hB8 : Below w.heap.size w w8 := HB.out.drew.trans (hm8.below (fun j hj => by simp at hj; omega) HB.out.size)))
                      have HR8 := Lib.hid hrd8
                      have HB8 := Lib.hid hB8
                      clear hrd8 hm8 hB8 c1 c2 RN
                      go_wp2
                      go_roundw
                      case rel => exact ⟨a + 1, p' + v.size, hla, by go_num, HP'.out, HR8.out, HB8.out⟩
                      case measure => simp [intOf]; omega
                    · obtain rfl : a = n2 := by omega
                      have hp0 := HP.out
                      rw [List.drop_of_length_le (by rw [List.length_map, HN2.out]; exact Nat.le_refl _), show Wire.flatT [] = [] from rfl, List.nil_append] at hp0
                      have HP1 := Lib.hid hp0
                      clear hp0 HP
                      go_wp2
                      go_loopw [11] (fun i ws => ∃ (a p : Nat), a ≤ n3 ∧ i = .int .i64 a ∧ Hid (Rest s p (Wire.flatB (y.bb.drop a) ++ R3)) ∧ Hid (RdAt g2 0 s p ws) ∧ Hid (Below w.heap.size w ws)) (fun i _ => n3 - (intOf i).toNat)
                      case atStart => exact ⟨0, p, Nat.zero_le _, rfl, HP1.out, HRD.out, HB.out⟩
                      case round =>
                        clear HRD HB HP1
                        obtain ⟨a, p, ha, rfl, HP, HRD, HB⟩ := hrel
                        have c1 := HC3.out wr HB.out
                        by_cases hla : a < n3
                        · obtain ⟨nad, v, hna, hnab, hav, hcv⟩ := bool_at HIN.out.rb (show a < y.bb.length by rw [HN3.out]; exact hla)
                          have HCV : Hid (∀ V, Below w.heap.size w V → V.cell? (nad.add a) = some (.bool v)) := fun V hV => (hV.cell (by rw [block_of_add]; exact hnab)).trans hcv
                          rw [hna] at c1
                          have HCN : Hid (∀ V, Below w.heap.size w V → V.cell? ⟨(ad.add (m * 4)).block, (ad.add (m * 4)).off + 3, none⟩ = some (.slice (some nad) n3 y.bc)) := fun V hV => by rw [← hna]; exact HC3.out V hV
                          have hp := HP.out
                          rw [Wire.flatB_drop hav, List.cons_append] at hp
                          obtain ⟨hk', hbv, hrest⟩ := rest_bool hp
                          have HP' := Lib.hid hrest
                          have RN := rBool_ok g2 s p v wr.drew (HRD.out.drewN 1) hk' hss hbv
                          clear hp hk' hbv hrest
                          clear hna hav hcv
                          have c2 := HCV.out wr HB.out
                          go_wp2
                          go_region_held3 (fun W => W.cell? ⟨(ad.add (m * 4)).block, (ad.add (m * 4)).off + 3, none⟩ = some (.slice (some nad) n3 y.bc) ∧ W.cell? (nad.add a) = some (.bool v))
                            (first | exact ⟨c1, c2⟩ | exact ⟨HCN.out _ hB8, HCV.out _ hB8⟩)
                            (first | (go_at_call 33; (with_reducible refine RN.mono ?_); rintro e w8 ⟨rfl, hrd8, hm8⟩; have hB8 : Below w.heap.size w w8 := HB.out.drew.trans (hm8.below (fun j hj => by simp at hj; omega) HB.out.size)))
                          have HR8 := Lib.hid hrd8
                          have HB8 := Lib.hid hB8
                          clear hrd8 hm8 hB8 c1 c2 RN
                          go_wp2
                          go_roundw
                          case rel => exact ⟨a + 1, p + 1, hla, by go_num, HP'.out, HR8.out, HB8.out⟩
                          case measure => simp [intOf]; omega
                        · obtain rfl : a = n3 := by omega
                          have hp0 := HP.out
                          rw [List.drop_of_length_le (by rw [HN3.out]; exact Nat.le_refl _), show Wire.flatB [] = [] from rfl, List.nil_append] at hp0
                          have HP1 := Lib.hid hp0
                          clear hp0 HP
                          go_wp2
                          go_roundw
                          case rel => exact ⟨m + 1, p, hlt2, by go_num, by show Rest _ _ _; rw [HR3.out]; exact HP1.out, HRD.out, HB.out⟩
                          case measure => simp [intOf]; omega
            · obtain rfl : m = k := by omega
              have hp := HP.out
              rw [List.drop_of_length_le (by rw [List.length_map, Hn.out]; exact Nat.le_refl _)] at hp
              have hpos := Rest.nil hp
              have hle : pos ≤ s.size := HP.out.1
              have h00 : s.size - pos = 0 := by omega
              have hen : endOf s ⟨0, pos⟩ = 0 := by
                unfold endOf
                rw [if_neg (by simp), if_neg (by show ¬ pos < s.size; omega)]
              clear hp HP
              have HE := Lib.hid hen
              have HZ := Lib.hid h00
              clear hpos hen h00
              go_wp2_with fail
              refine (alive3_any wr).mono ?_
              rintro e w8 ⟨rfl, hb8⟩
              have HR8 := Lib.hid (HRD.out.below (hb8.mono (Nat.le_refl _)))
              have HB8 := Lib.hid (HB.out.trans (hb8.mono HB.out.size))
              clear hb8 HB HRD
              go_wp2_with fail
              refine (wrong_any g2 0 w8 HR8.out.cell0).mono ?_
              rintro e w9 ⟨rfl, rfl⟩
              go_wp2_with fail
              refine (left_any g2 0 s pos _ HR8.out hle hss).mono ?_
              rw [HZ.out]
              rintro e w9 ⟨rfl, q, rfl⟩
              go_wp2_with fail
              refine (end_any g2 s ⟨0, pos⟩ _ (HR8.out.drewN q) hle hss).mono ?_
              rw [HE.out]
              rintro e w10 ⟨rfl, q2, rfl⟩
              go_wp2
              go_ret
              exact ⟨rfl, drewN_below HB8.out (q + q2)⟩
end Go.Proofs.Ytfjdcmhhnknojaa
