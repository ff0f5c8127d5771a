/-
  Package name's sets as contracts: a set of its own made, and its first texts.
  Conditions: texts in lists that the call reads.
-/
import Derived.Test.YtlniafpbkhkkaaaGreatName2
import Derived.Carry
namespace Go.Proofs.YtlniafpbkhkkaaaGreat
open Go.RowKit Go.Maps

set_option maxHeartbeats 2000000 in
set_option maxRecDepth 100000 in
theorem addset_new (c : Nat) (l : List ByteArray) (A : Option Addr) (cp : Nat) (w : World) (h : w.heap[c]? = some (.cells #[.map none] 60 (0, 0))) (hD : l.length ≤ 1000000000) (hr : Reads w w.heap.size 1 A l.length (strs l)) (hA : 0 < l.length → ∀ ad, A = some ad → ad.block ≠ c ∧ ad.block < w.heap.size)
    (hs : ∀ s ∈ l, s.size ≤ 281474976710656) :
    Calls Tryz.prog 21 #[.pointer (some ⟨c, 0, none⟩), .slice A l.length cp] w fun e w' => e = .returned (.int .i64 (Maps.size (setS l) : Nat)) ∧ SetAt c w.heap.size (setS l) w' ∧ Mv [c] [c, w.heap.size] w w' := by
  obtain ⟨D, hD9⟩ : ∃ D : DataW Unit, DataW.map [] = D := ⟨_, rfl⟩
  have hset : setS l = addS D l := by rw [← hD9]; rfl
  rw [hset]
  have hg : GoodS D := by rw [← hD9]; exact goodS_none
  have hD0 : Maps.size D = 0 := by rw [← hD9]; rfl
  have HD9 := Lib.hid hD9; clear hset hD9
  have hmm := @run_makeMap Tryz.prog
  have hclt : c < w.heap.size := Blk.lt h
  have hbcc : w.heap.size ≠ c := by omega
  have hz := fun (w : World) => zeroU w
  have q := fun (w : World) (r : Option Nat) => map_nil w r
  obtain ⟨n, hn⟩ : ∃ n, l.length = n := ⟨_, rfl⟩
  have hszl := size_addS hg l
  rw [hD0, hn] at hszl
  have hsl : ∀ k, k ≤ n → 0 ≤ Maps.size (addS D (l.take k)) ∧ Maps.size (addS D (l.take k)) ≤ 0 + k := by
    intro k hk
    have h1 := size_addS hg (l.take k)
    rw [hD0, List.length_take] at h1
    omega
  rw [hn] at hD
  rw [hn] at hr ⊢
  have HD0 := Lib.hid hD0; clear hD0
  have Hn := Lib.hid hn; have Hr := Lib.hid hr; have HA := Lib.hid hA; have Hs := Lib.hid hs; have Hsl := Lib.hid hsl; have Hg := Lib.hid hg
  have c0 : w.cell? ⟨c, 0, none⟩ = some (.map none) := by rw [Lib.cell_of_heap h]; rfl
  have f0 : w.frozen? ⟨c, 0, none⟩ = false := Lib.frozen_of_heap h 0
  have HS := Lib.hid h
  clear hn hr hA hs hsl hg h
  have own0 : ((w.setCell ⟨c, 0, none⟩ (.map (some w.heap.size))).alloc (.map #[] 0)).ownsMap Tryz.prog 9 (unitElem (H := Unit)) w.heap.size 0 (.map []) := by
    have h := World.ownsMap_made (P := Tryz.prog) (w.setCell ⟨c, 0, none⟩ (.map (some w.heap.size))) 9 (unitElem (H := Unit))
    have e : (w.setCell ⟨c, 0, none⟩ (.map (some w.heap.size))).heap.size = w.heap.size := by simp [World.setCell]
    rw [e] at h
    exact h
  have hS0 : SetAt c w.heap.size D ((w.setCell ⟨c, 0, none⟩ (.map (some w.heap.size))).alloc (.map #[] 0)) := by
    refine ⟨?_, by rw [HD0.out, ← HD9.out]; exact own0, fun e => hbcc e.symm⟩
    exact (Blk.set_ HS.out 0 (.map (some w.heap.size))).alloc _
  have hM0 : Mv [c] [c, w.heap.size] w ((w.setCell ⟨c, 0, none⟩ (.map (some w.heap.size))).alloc (.map #[] 0)) :=
    (((Mv.refl [c] w).set_ (by simp) 0 _).alloc _).less (fun k hk => by simp at hk; rcases hk with rfl | rfl <;> simp)
  have HS0 := Lib.hid hS0; have HM0 := Lib.hid hM0
  clear hS0 hM0
  go_enter Tryz.func21, Tryz.ntmps21
  go_wp2_with (at_len; refine wpList_len_own _ rfl _ 58 rfl 9 104 Tryz.underlying58 (unitElem (H := Unit)) w.heap.size 0 (.map []) rfl own0 ?_)
  clear own0 c0 f0
  go_loopw [28] (fun i wr => ∃ k : Nat, k ≤ n ∧ i = .int .i64 k ∧ Hid (SetAt c w.heap.size (addS D (l.take k)) wr) ∧ Hid (Mv [c] [c, w.heap.size] w wr)) (fun i _ => n - (intOf i).toNat)
  case atStart => exact ⟨0, Nat.zero_le _, rfl, HS0.out, HM0.out⟩
  case round =>
    obtain ⟨k, hk, rfl, HK, HM⟩ := hrel
    have c0 : wr.cell? ⟨c, 0, none⟩ = some (.map (some w.heap.size)) := by rw [Lib.cell_of_heap HK.out.1]; rfl
    have hbc : c ≠ w.heap.size := HK.out.2.2
    obtain ⟨b, hb⟩ : ∃ b, w.heap.size = b := ⟨_, rfl⟩
    have Hb := Lib.hid hb
    rw [hb] at hbc c0
    have HK' : Hid (SetAt c b (addS D (l.take k)) wr) := by show SetAt _ _ _ _; rw [← hb]; exact HK.out
    have HM' : Hid (Mv [c] [c, b] w wr) := by show Mv _ _ _ _; rw [← hb]; exact HM.out
    clear HK HM
    have HK := HK'; have HM := HM'; clear HK' HM' hb
    have hown := HK.out.2.1
    by_cases hlt : k < n
    · obtain ⟨ad, s, rfl, hab, hsk, hc⟩ := str_at (Hr.out.apart (fun ad e => ⟨by simpa using (HA.out (by have := Hn.out; omega) ad e).1, (HA.out (by have := Hn.out; omega) ad e).2⟩) HM.out HM.out.size) hlt
      have hs9 := Hs.out s (List.mem_of_getElem? hsk)
      have hst := addS_step (D := D) hsk
      have hgk := Hg.out.add (l.take k)
      have hsz := Hsl.out k hk
      have hsz1 := Hsl.out (k + 1) hlt
      obtain ⟨Dk, hDk⟩ : ∃ Dk, addS D (l.take k) = Dk := ⟨_, rfl⟩
      obtain ⟨D1, hD1⟩ : ∃ D1, addS D (l.take (k + 1)) = D1 := ⟨_, rfl⟩
      rw [hDk] at hst hgk hsz hown
      rw [hD1] at hst hsz1
      rw [hDk] at HK
      have HST := Lib.hid hst; have HD1 := Lib.hid hD1
      clear hst hDk hD1 hsk hab
      cases hh : hasS Dk s
      · have h1 : D1 = Dk.put (kS s) (.agg []) := by rw [HST.out]; unfold addOne; rw [if_neg (by rw [hh]; decide)]
        have hh' : Maps.has Dk (kS s) = false := hh
        have H1 := Lib.hid h1
        clear h1
        go_wp2_with (at_lookup; refine wpList_lookup_own_unit _ rfl _ _ 58 rfl 9 104 keyT Tryz.underlying58 (zeroU _) b _ Dk rfl hown _ _ rfl (key_str (by omega)) ?_)
        have hclt : c < wr.heap.size := HK.out.lt
        have hblt : b < wr.heap.size := HK.out.ltb
        have c1 : (wr.alloc (.cells #[] 104)).cell? ⟨c, 0, none⟩ = some (.map (some b)) := (World.cell?_alloc_lt wr _ _ hclt).trans c0
        have HB0 := Lib.hid (Below.heap_alloc wr (.cells #[] 104) b hblt)
        have HOwn := Lib.hid hown
        clear hown c0 hh hh' hc
        go_region_held3 (fun W => W.cell? ⟨c, 0, none⟩ = some (.map (some b)))
          (first | exact c1 | exact (hb2.cell (show (⟨c, 0, none⟩ : Addr).block < _ by show c < _; simp; omega)).trans c1 | exact (World.cell?_of_block (hgrow3.block c (by have := hb2.size; simp at this; omega) (fun e => hbc (by injection e)))).trans ((hb2.cell (show (⟨c, 0, none⟩ : Addr).block < _ by show c < _; simp; omega)).trans c1))
          (first | (go_at_call 97; refine (clone_any s _ hs9).mono ?_; rintro e w2 ⟨rfl, hb2⟩; obtain ⟨w3, hrun, hown3, hgrow3⟩ := (own_keep HOwn.out ((hb2.block b (by simp; omega)).trans HB0.out)).update keyT Tryz.underlying58 (by unfold maxLen; omega) (key_str (s := s) (by omega)) (unitElem_mk (H := Unit))))
        have hkc : w3.heap[c]? = some (.cells #[.map (some b)] 60 (0, 0)) := by
          rw [hgrow3.block c (by have := hb2.size; simp at this; omega) (fun e => hbc (by injection e)), hb2.block c (by simp; omega)]
          exact (Below.heap_alloc wr _ c hclt).trans HK.out.1
        have HK3 : Hid (SetAt c b D1 w3) := by
          show SetAt _ _ _ _
          rw [H1.out]
          exact ⟨hkc, own_tight hown3, hbc⟩
        have HM3 : Hid (Mv [c] [c, b] w w3) := by
          show Mv _ _ _ _
          exact (((HM.out.alloc _).drew).then_below hb2).grown hgrow3 (fun k h => by injection h with h; simp [h]) (fun k h => .inl h)
        clear hrun hown3 hgrow3 hb2 hkc HOwn
        go_wp2
        go_round
        case rel => exact ⟨k + 1, hlt, by go_num, by rw [HD1.out, Hb.out]; exact HK3.out, by rw [Hb.out]; exact HM3.out⟩
        case measure => simp [intOf]; omega
      · have h1 : D1 = Dk := by rw [HST.out]; unfold addOne; rw [if_pos hh]
        have hh' : Maps.has Dk (kS s) = true := hh
        rw [h1] at HD1 hsz1
        clear h1 HST
        go_wp2_with (at_lookup; refine wpList_lookup_own_unit _ rfl _ _ 58 rfl 9 104 keyT Tryz.underlying58 (zeroU _) b _ Dk rfl hown _ _ rfl (key_str (by omega)) ?_)
        go_round
        case rel => exact ⟨k + 1, hlt, by go_num, by rw [HD1.out, Hb.out]; exact HK.out.alloc _, by rw [Hb.out]; exact HM.out.alloc _⟩
        case measure => simp [intOf]; omega
    · obtain rfl : k = n := by omega
      have hall : l.take k = l := List.take_of_length_le (by have := Hn.out; omega)
      rw [hall] at HK hown
      obtain ⟨s1, hs1⟩ : ∃ s1, Maps.size (addS D l) = s1 := ⟨_, rfl⟩
      rw [hs1] at hszl hown
      have HS1 := Lib.hid hs1
      clear hs1 hall
      go_wp2_with (at_len; refine wpList_len_own _ rfl _ 58 rfl 9 104 Tryz.underlying58 _ b _ _ rfl hown ?_; rw [HS1.out])
      go_ret
      exact ⟨by rw [HS1.out]; simp [size_eq, wrap64]; omega, by rw [Hb.out]; exact HK.out, by rw [Hb.out]; exact HM.out⟩
end Go.Proofs.YtlniafpbkhkkaaaGreat
