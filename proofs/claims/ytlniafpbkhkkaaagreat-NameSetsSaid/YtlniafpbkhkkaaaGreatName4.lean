/-
  Package name as contracts: a new set, less texts, its list, texts sorted.
  Conditions: sets that the call has made; texts in lists that the call reads, apart from the set.
-/
import Derived.Test.YtlniafpbkhkkaaaGreatName3
namespace Go.Proofs.YtlniafpbkhkkaaaGreat
open Go.RowKit Go.Maps

set_option maxHeartbeats 1000000 in
theorem newset_any (l : List ByteArray) (A : Option Addr) (cp : Nat) (w : World) (hD : l.length ≤ 1000000000) (hr : Reads w w.heap.size 1 A l.length (strs l)) (hA : 0 < l.length → ∀ ad, A = some ad → ad.block < w.heap.size) (hs : ∀ s ∈ l, s.size ≤ 281474976710656) :
    Calls Tryz.prog 18 #[.slice A l.length cp] w fun e w' => e = .returned (.pointer (some ⟨w.heap.size, 0, none⟩)) ∧ SetAt w.heap.size (w.heap.size + 1) (setS l) w' ∧ Below w.heap.size w w' := by
  have hk : (w.alloc (.cells #[.map none] 60)).heap[w.heap.size]? = some (.cells #[.map none] 60 (0, 0)) := heap_alloc_new w _
  have hc := addset_new w.heap.size l A cp (w.alloc (.cells #[.map none] 60)) hk hD ((hr.alloc (Nat.le_refl _) _).more (by simp)) (fun h ad e => ⟨by have := hA h ad e; omega, by have := hA h ad e; simp; omega⟩) hs
  rw [show (w.alloc (.cells #[.map none] 60)).heap.size = w.heap.size + 1 from by simp] at hc
  obtain ⟨n, hn⟩ : ∃ n, l.length = n := ⟨_, rfl⟩
  rw [hn] at hc ⊢
  have HC := Lib.hid hc; clear hc hk hr hA hs hn hD
  go_enter Tryz.func18, Tryz.ntmps18
  go_wp2_with fail
  refine HC.out.mono ?_
  rintro e w1 ⟨rfl, h1, h2⟩
  have H1 := Lib.hid h1
  have H2 : Hid (Below w.heap.size w w1) := by
    show Below _ _ _
    exact ((Below.refl _ _).alloc (Nat.le_refl _) _).trans (h2.below (fun k hk => by simp at hk; omega) (by simp))
  clear h1 h2
  go_wp2
  go_ret
  exact ⟨rfl, H1.out, H2.out⟩

set_option maxHeartbeats 2000000 in
set_option maxRecDepth 100000 in
theorem delset_any (c b : Nat) (D : DataW Unit) (l : List ByteArray) (A : Option Addr) (cp : Nat) (w : World) (h : SetAt c b D w) (hg : GoodS D) (hD : Maps.size D ≤ 1000000000) (hl : l.length ≤ 1000000000) (hr : Reads w w.heap.size 1 A l.length (strs l)) (hA : 0 < l.length → ∀ ad, A = some ad → ad.block ≠ b ∧ ad.block < w.heap.size)
    (hs : ∀ s ∈ l, s.size ≤ 281474976710656) :
    Calls Tryz.prog 22 #[.pointer (some ⟨c, 0, none⟩), .slice A l.length cp] w fun e w' => e = .returned (.int .i64 ((Maps.size D : Int) - (Maps.size (delS D l) : Int))) ∧ SetAt c b (delS D l) w' ∧ Mv [b] [b] w w' := by
  obtain ⟨n, hn⟩ : ∃ n, l.length = n := ⟨_, rfl⟩
  obtain ⟨s0, hs0⟩ : ∃ s0, Maps.size D = s0 := ⟨_, rfl⟩
  have hsz := size_delS hg l
  have hlen := len_any c b D w h
  rw [hs0] at hsz hD hlen
  rw [hs0]
  rw [hn] at hr hl ⊢
  have Hn := Lib.hid hn; have Hs0 := Lib.hid hs0; have Hr := Lib.hid hr; have HA := Lib.hid hA; have Hs := Lib.hid hs; have Hg := Lib.hid hg; have HL := Lib.hid hlen
  have HS := Lib.hid h
  clear hn hs0 hr hA hs hg h hlen
  by_cases h0 : s0 = 0
  · subst h0
    have hgone : Maps.size (delS D l) = 0 := by omega
    have hdd : delS D l = D := by
      have h1 := Hs0.out
      obtain ⟨_, es, rfl, _⟩ := Hg.out
      rw [size_eq] at h1
      obtain rfl : es = [] := List.eq_nil_of_length_eq_zero h1
      exact delS_none l
    rw [hdd, Hs0.out]
    clear hgone hdd hsz
    go_enter Tryz.func22, Tryz.ntmps22
    go_wp2_with fail
    refine HL.out.mono ?_
    rintro e w1 ⟨rfl, rfl⟩
    go_wp2
    go_ret
    exact ⟨rfl, HS.out, Mv.refl _ _⟩
  · have hz0 : ((s0 : Int) == 0) = false := by simp; omega
    go_enter Tryz.func22, Tryz.ntmps22
    go_wp2_with fail
    refine HL.out.mono ?_
    rintro e w1 ⟨rfl, rfl⟩
    go_wp2
    go_loopw [14] (fun i wr => ∃ k : Nat, k ≤ n ∧ i = .int .i64 k ∧ Hid (SetAt c b (delS D (l.take k)) wr) ∧ Hid (Mv [b] [b] w wr)) (fun i _ => n - (intOf i).toNat)
    case atStart => exact ⟨0, Nat.zero_le _, rfl, HS.out, Mv.refl _ _⟩
    case round =>
      obtain ⟨k, hk, rfl, HK, HM⟩ := hrel
      have c0 : wr.cell? ⟨c, 0, none⟩ = some (.map (some b)) := by rw [Lib.cell_of_heap HK.out.1]; rfl
      have hbc : c ≠ b := HK.out.2.2
      have hown := HK.out.2.1
      by_cases hlt : k < n
      · obtain ⟨ad, s, rfl, hab, hsk, hc⟩ := str_at (Hr.out.apart (fun ad e => ⟨by simpa using (HA.out (by have := Hn.out; omega) ad e).1, (HA.out (by have := Hn.out; omega) ad e).2⟩) HM.out HM.out.size) hlt
        have hs9 := Hs.out s (List.mem_of_getElem? hsk)
        have hst := delS_step (D := D) hsk
        have HST := Lib.hid hst
        clear hst hsk hab
        go_wp2_with (at_delete; refine wpList_delete_own _ rfl _ _ 58 9 rfl 104 keyT Tryz.underlying58 _ b _ _ rfl hown _ _ rfl (key_str (by omega)) ?_)
        intro w2 hown2 hturn2
        have hgrow2 := hturn2.grown
        have hclt := HK.out.lt
        have HK3 : Hid (SetAt c b (delS D (l.take (k + 1))) w2) := by
          show SetAt _ _ _ _
          rw [HST.out]
          exact ⟨(hgrow2.block c hclt (fun e => hbc (by injection e))).trans HK.out.1, own_tight hown2, hbc⟩
        have HM3 : Hid (Mv [b] [b] w w2) := by
          show Mv _ _ _ _
          exact HM.out.grown hgrow2 (fun k h => by injection h with h; simp [h]) (fun k h => .inl h)
        clear hgrow2 hturn2 hown2 hown c0 hc
        go_wp2
        go_roundw
        case rel => exact ⟨k + 1, hlt, by go_num, HK3.out, HM3.out⟩
        case measure => simp [intOf]; omega
      · obtain rfl : k = n := by omega
        have hall : l.take k = l := List.take_of_length_le (by have := Hn.out; omega)
        rw [hall] at HK hown
        obtain ⟨s1, hs1⟩ : ∃ s1, Maps.size (delS D l) = s1 := ⟨_, rfl⟩
        rw [hs1] at hsz hown
        have HS1 := Lib.hid hs1
        clear hs1 hall
        go_wp2_with (at_len; refine wpList_len_own _ rfl _ 58 rfl 9 104 Tryz.underlying58 _ b _ _ rfl hown ?_; rw [HS1.out])
        go_ret
        exact ⟨by rw [HS1.out]; rfl, HK.out, HM.out⟩
end Go.Proofs.YtlniafpbkhkkaaaGreat
