/-
  Package name's sets as contracts: more texts.
  Conditions: sets that the call has made; texts in lists that the call reads, apart from the set.
-/
import Derived.Test.YtlniafpbkhkkaaaGreatName1
namespace Go.Proofs.YtlniafpbkhkkaaaGreat
open Go.RowKit Go.Maps

set_option maxHeartbeats 2000000 in
set_option maxRecDepth 100000 in
theorem addset_any (c b : Nat) (D : DataW Unit) (l : List ByteArray) (A : Option Addr) (cp : Nat) (w : World) (h : SetAt c b D w) (hg : GoodS D) (hD : Maps.size D + l.length ≤ 1000000000) (hr : Reads w w.heap.size 1 A l.length (strs l)) (hA : 0 < l.length → ∀ ad, A = some ad → ad.block ≠ b ∧ ad.block < w.heap.size)
    (hs : ∀ s ∈ l, s.size ≤ 281474976710656) :
    Calls Tryz.prog 21 #[.pointer (some ⟨c, 0, none⟩), .slice A l.length cp] w fun e w' => e = .returned (.int .i64 ((Maps.size (addS D l) : Int) - (Maps.size D : Int))) ∧ SetAt c b (addS D l) w' ∧ Mv [b] [b] w w' := by
  have hz := fun (w : World) => zeroU w
  have q := fun (w : World) (r : Option Nat) => map_nil w r
  obtain ⟨n, hn⟩ : ∃ n, l.length = n := ⟨_, rfl⟩
  obtain ⟨s0, hs0⟩ : ∃ s0, Maps.size D = s0 := ⟨_, rfl⟩
  have hszl := size_addS hg l
  rw [hs0, hn] at hszl
  have hsl : ∀ k, k ≤ n → s0 ≤ Maps.size (addS D (l.take k)) ∧ Maps.size (addS D (l.take k)) ≤ s0 + k := by
    intro k hk
    have h1 := size_addS hg (l.take k)
    rw [hs0, List.length_take] at h1
    omega
  rw [hs0, hn] at hD
  rw [hn] at hr ⊢
  rw [hs0]
  have Hn := Lib.hid hn; have Hs0 := Lib.hid hs0; have Hr := Lib.hid hr; have HA := Lib.hid hA; have Hs := Lib.hid hs; have Hsl := Lib.hid hsl; have Hg := Lib.hid hg
  have c0 : w.cell? ⟨c, 0, none⟩ = some (.map (some b)) := by rw [Lib.cell_of_heap h.1]; rfl
  have HS := Lib.hid h
  clear hn hs0 hr hA hs hsl hg h
  have hown := HS.out.2.1
  rw [Hs0.out] at hown
  go_enter Tryz.func21, Tryz.ntmps21
  go_wp2_with (at_len; refine wpList_len_own _ rfl _ 58 rfl 9 104 Tryz.underlying58 _ b _ _ rfl hown ?_; rw [Hs0.out])
  clear hown
  go_loopw [28] (fun i wr => ∃ k : Nat, k ≤ n ∧ i = .int .i64 k ∧ Hid (SetAt c b (addS D (l.take k)) wr) ∧ Hid (Mv [b] [b] w wr)) (fun i _ => n - (intOf i).toNat)
  case atStart => exact ⟨0, Nat.zero_le _, rfl, HS.out, Mv.refl _ _⟩
  case round =>
    obtain ⟨k, hk, rfl, HK, HM⟩ := hrel
    clear c0
    have c0 : wr.cell? ⟨c, 0, none⟩ = some (.map (some b)) := by rw [Lib.cell_of_heap HK.out.1]; rfl
    have hbc : c ≠ b := HK.out.2.2
    have hown := HK.out.2.1
    by_cases hlt : k < n
    · obtain ⟨ad, s, rfl, hab, hsk, hc⟩ := str_at (Hr.out.apart (fun ad e => ⟨by simpa using (HA.out (by have := Hn.out; omega) ad e).1, (HA.out (by have := Hn.out; omega) ad e).2⟩) HM.out HM.out.size) hlt
      have hs9 := Hs.out s (List.mem_of_getElem? hsk)
      have hst := addS_step (D := D) hsk
      have hgk := Hg.out.add (l.take k)
      have hsz := Hsl.out k hk
      have hsz1 := Hsl.out (k + 1) hlt
      obtain ⟨Dk, hDk⟩ : ∃ Dk, addS D (l.take k) = Dk := ⟨_, rfl⟩
      obtain ⟨D1, hD1⟩ : ∃ D1, addS D (l.take (k + 1)) = D1 := ⟨_, rfl⟩
      rw [hDk] at hst hgk hsz hown
      rw [hD1] at hst hsz1
      rw [hDk] at HK
      have HST := Lib.hid hst; have HD1 := Lib.hid hD1
      clear hst hDk hD1 hsk hab
      cases hh : hasS Dk s
      · have h1 : D1 = Dk.put (kS s) (.agg []) := by rw [HST.out]; unfold addOne; rw [if_neg (by rw [hh]; decide)]
        have hh' : Maps.has Dk (kS s) = false := hh
        have H1 := Lib.hid h1
        clear h1
        go_wp2_with (at_lookup; refine wpList_lookup_own_unit _ rfl _ _ 58 rfl 9 104 keyT Tryz.underlying58 (zeroU _) b _ Dk rfl hown _ _ rfl (key_str (by omega)) ?_)
        have hclt : c < wr.heap.size := HK.out.lt
        have hblt : b < wr.heap.size := HK.out.ltb
        have c1 : (wr.alloc (.cells #[] 104)).cell? ⟨c, 0, none⟩ = some (.map (some b)) := (World.cell?_alloc_lt wr _ _ hclt).trans c0
        have HB0 := Lib.hid (Below.heap_alloc wr (.cells #[] 104) b hblt)
        have HOwn := Lib.hid hown
        clear hown c0 hh hh' hc
        go_region_held3 (fun W => W.cell? ⟨c, 0, none⟩ = some (.map (some b)))
          (first | exact c1 | exact (hb2.cell (show (⟨c, 0, none⟩ : Addr).block < _ by show c < _; simp; omega)).trans c1 | exact (World.cell?_of_block (hgrow3.block c (by have := hb2.size; simp at this; omega) (fun e => hbc (by injection e)))).trans ((hb2.cell (show (⟨c, 0, none⟩ : Addr).block < _ by show c < _; simp; omega)).trans c1))
          (first | (go_at_call 97; refine (clone_any s _ hs9).mono ?_; rintro e w2 ⟨rfl, hb2⟩; obtain ⟨w3, hrun, hown3, hgrow3⟩ := (own_keep HOwn.out ((hb2.block b (by simp; omega)).trans HB0.out)).update keyT Tryz.underlying58 (by unfold maxLen; omega) (key_str (s := s) (by omega)) (unitElem_mk (H := Unit))))
        have hkc : w3.heap[c]? = some (.cells #[.map (some b)] 60 (0, 0)) := by
          rw [hgrow3.block c (by have := hb2.size; simp at this; omega) (fun e => hbc (by injection e)), hb2.block c (by simp; omega)]
          exact (Below.heap_alloc wr _ c hclt).trans HK.out.1
        have HK3 : Hid (SetAt c b D1 w3) := by
          show SetAt _ _ _ _
          rw [H1.out]
          exact ⟨hkc, own_tight hown3, hbc⟩
        have HM3 : Hid (Mv [b] [b] w w3) := by
          show Mv _ _ _ _
          exact (((HM.out.alloc _).drew).then_below hb2).grown hgrow3 (fun k h => by injection h with h; simp [h]) (fun k h => .inl h)
        clear hrun hown3 hgrow3 hb2 hkc HOwn
        go_wp2
        go_round
        case rel => exact ⟨k + 1, hlt, by go_num, by rw [HD1.out]; exact HK3.out, HM3.out⟩
        case measure => simp [intOf]; omega
      · have h1 : D1 = Dk := by rw [HST.out]; unfold addOne; rw [if_pos hh]
        have hh' : Maps.has Dk (kS s) = true := hh
        rw [h1] at HD1 hsz1
        clear h1 HST
        go_wp2_with (at_lookup; refine wpList_lookup_own_unit _ rfl _ _ 58 rfl 9 104 keyT Tryz.underlying58 (zeroU _) b _ Dk rfl hown _ _ rfl (key_str (by omega)) ?_)
        go_round
        case rel => exact ⟨k + 1, hlt, by go_num, by rw [HD1.out]; exact HK.out.alloc _, HM.out.alloc _⟩
        case measure => simp [intOf]; omega
    · obtain rfl : k = n := by omega
      have hall : l.take k = l := List.take_of_length_le (by have := Hn.out; omega)
      rw [hall] at HK hown
      obtain ⟨s1, hs1⟩ : ∃ s1, Maps.size (addS D l) = s1 := ⟨_, rfl⟩
      rw [hs1] at hszl hown
      have HS1 := Lib.hid hs1
      clear hs1 hall
      go_wp2_with (at_len; refine wpList_len_own _ rfl _ 58 rfl 9 104 Tryz.underlying58 _ b _ _ rfl hown ?_; rw [HS1.out])
      go_ret
      exact ⟨by rw [HS1.out]; rfl, HK.out, HM.out⟩
end Go.Proofs.YtlniafpbkhkkaaaGreat
