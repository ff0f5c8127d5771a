/-
  Package sum's Scan as a contract: what it finds in bytes is what the plain law finds.
  Conditions: bytes of at most 10^9.
-/
import Derived.Test.YtjhinifmdjlblaaGreatSum2
import Derived.Deep.RegionHeld3
import Derived.Deep.DrawnRows
import Derived.Outline
namespace Go.Proofs.YtjhinifmdjlblaaGreat.Sm
open Go.RowKit

def texts (ls : List (List UInt8)) : List ByteArray := ls.map fun l => ⟨l.toArray⟩
theorem extract_size (s : ByteArray) (a b : Nat) (h : b ≤ s.size) : (s.extract a b).size = b - a := by
  simp; omega
theorem extract_data' (s : ByteArray) (a b : Nat) : (s.extract a b).data.toList = (s.data.toList.drop a).take (b - a) := by
  simp
theorem extract_tail (s : ByteArray) (a : Nat) : (s.extract a s.size).data.toList = s.data.toList.drop a := by
  rw [extract_data', List.take_of_length_le (by rw [List.length_drop, len_data]; omega)]
attribute [local go_sem ↓] Go.wp_at_zero Go.wp_at_succ
theorem info_string : (Tryz.prog.info? 9).map (fun i => (i.zero, i.size, i.bytes)) = some (some (.string ⟨#[]⟩), 1, 16) := by kernel_rfl

/-- The sum of one text, in a block of its own. -/
theorem crc_one (s : ByteArray) (A : Option Addr) (c B : Nat) (w : World) (hr : Reads w B 1 A 1 (strs [s])) (hs : s.size ≤ 9223372036854775807) :
    Calls Tryz.prog 78 #[.slice A 1 c] w fun e w' => e = .returned (.int .i64 (Sum.crc s.data.toList)) ∧ w = w' :=
  (crc_any [s] A c B w hr (by simp) (by simpa using hs)).mono fun e w' ⟨he, hw⟩ => ⟨by rw [he]; simp [cat], hw⟩
theorem num_data (s : ByteArray) (h4 : 4 ≤ s.size) (l : List UInt8) (hl : s.data.toList = l) (w : World) :
    Calls Tryz.prog 77 #[.string s] w fun e w' => e = .returned (.int .i64 (Sum.num l)) ∧ ∃ q, w' = w.drewN q := by
  subst hl
  exact num_any s h4 w

set_option maxHeartbeats 2000000 in
set_option maxRecDepth 100000 in
theorem scan_any (s : ByteArray) (w : World) (hN : s.size ≤ 1000000000) :
    Calls Tryz.prog 44 #[.string s] w fun e w' => ∃ A c, e = .returned (.tuple #[.slice A (Sum.scan s.data.toList).1.length c, .int .i64 (Sum.scan s.data.toList).2]) ∧
      w'.ownsRow w.heap.size 9 1 (.slice A (Sum.scan s.data.toList).1.length c) (Sum.scan s.data.toList).1.length (strs (texts (Sum.scan s.data.toList).1)) ∧ Below w.heap.size w w' := by
  obtain ⟨i0, hi, hz0, hz1, hz2⟩ := info_parts info_string
  go_enter Tryz.func44, Tryz.ntmps44
  go_wp2
  go_loopw [4, 5] (fun o i wr => ∃ (l : List (List UInt8)) (k : Nat), k ≤ s.size ∧ 8 * l.length ≤ k ∧ i = .int .i64 k ∧ Hid (Sum.scan s.data.toList = (l ++ (Sum.scan (s.data.toList.drop k)).1, k + (Sum.scan (s.data.toList.drop k)).2)) ∧
    (∃ A c, o = .slice A l.length c) ∧ wr.ownsRow w.heap.size 9 1 o l.length (strs (texts l)) ∧ Below w.heap.size w wr) (fun _ i _ => s.size - (intOf i).toNat)
  case atStart => exact ⟨[], 0, Nat.zero_le _, by simp, rfl, by simp [Hid], ⟨none, 0, rfl⟩, ⟨rfl, .inl ⟨rfl, rfl⟩⟩, Below.refl _ _⟩
  case round =>
    obtain ⟨l, k, hk, hlk, rfl, HS, ⟨A, c, rfl⟩, hown, hb⟩ := hrel
    have hsz := hb.size
    by_cases h8 : k + 8 ≤ s.size
    · have hn1 : (s.extract k s.size).size = s.size - k := extract_size s k s.size (Nat.le_refl _)
      go_wp2_with fail
      refine (num_any (s.extract k s.size) (by rw [hn1]; omega) _).mono ?_
      rintro e w1 ⟨rfl, q1, rfl⟩
      rw [extract_tail]
      generalize hnum : Sum.num (s.data.toList.drop k) = n
      have Hnum := Lib.hid hnum
      have hnlt : n < 4294967296 := by rw [← hnum]; exact Sum.num_lt _
      clear hnum hn1
      have hb1 : Below w.heap.size w (wr.drewN q1) := below_drewN hb q1
      have hown1 : (wr.drewN q1).ownsRow w.heap.size 9 1 (.slice A l.length c) l.length (strs (texts l)) := hown
      clear hb hown
      generalize wr.drewN q1 = w1 at *
      have hsz1 := hb1.size
      have hnone : ∀ _h : ¬ (8 ≤ (s.data.toList.drop k).length ∧ n ≤ 60000 ∧ n ≤ (s.data.toList.drop k).length - 8 ∧ Sum.crc (((s.data.toList.drop k).drop 8).take n) = Sum.num ((s.data.toList.drop k).drop 4)), Sum.scan s.data.toList = (l, k) := by
        intro h
        have h1 : Sum.scan (s.data.toList.drop k) = ([], 0) := by
          apply Sum.scan_none
          unfold Sum.head
          rw [Hnum.out, if_neg h]
        have h2 := HS.out
        rw [h1] at h2
        simpa using h2
      have Hnone := Lib.hid hnone; clear hnone
      have hdl : (s.data.toList.drop k).length = s.size - k := by rw [List.length_drop, len_data]
      have Hdl := Lib.hid hdl; clear hdl
      by_cases hA : 60000 < n
      · have hA' : decide ((60000 : Int) < n) = true := by simp; omega
        go_wp2
        go_quiet (fail)
        go_wp2
        go_ret2
        have hfin := Hnone.out (by omega)
        rw [hfin]
        exact ⟨A, c, rfl, hown1, below_drewN hb1 _⟩
      · have hA' : decide ((60000 : Int) < n) = false := by simp; omega
        by_cases hB : s.size - (k + 8) < n
        · have hB' : decide ((s.size : Int) - (k + 8) < n) = true := by simp; omega
          go_wp2
          go_quiet (fail)
          go_wp2
          go_ret2
          have hfin := Hnone.out (by rw [Hdl.out]; omega)
          rw [hfin]
          exact ⟨A, c, rfl, hown1, below_drewN hb1 _⟩
        · have hB' : decide ((s.size : Int) - (k + 8) < n) = false := by simp; omega
          have b1 : (0 : Int) ≤ (k : Int) + 8 := by omega
          have b2 : (k : Int) + 8 ≤ (k : Int) + 8 + (n : Int) := by omega
          have b3 : (k : Int) + 8 + (n : Int) ≤ (s.size : Int) := by omega
          have b4 : (k : Int) + 4 ≤ (s.size : Int) := by omega
          have b5 : (0 : Int) ≤ (k : Int) + 4 := by omega
          have x1 : IntKind.i64.wrap ((k : Int) + 8 + n) = (k : Int) + 8 + n := IntWalk.i64_in _ (by omega)
          have x2 : IntKind.i64.wrap ((k : Int) + 4) = (k : Int) + 4 := IntWalk.i64_in _ (by omega)
          have x3 : IntKind.i64.wrap ((s.size : Int) - ((k : Int) + 8)) = (s.size : Int) - ((k : Int) + 8) := IntWalk.i64_in _ (by omega)
          have n1 : ((k : Int) + 8).toNat = k + 8 := by omega
          have n2 : ((k : Int) + 8 + (n : Int)).toNat = k + 8 + n := by omega
          have n3 : ((k : Int) + 4).toNat = k + 4 := by omega
          obtain ⟨t, Ht⟩ : ∃ t, Hid (t = s.extract (k + 8) (k + 8 + n)) := ⟨_, rfl⟩
          have hts : t.size = n := by rw [Ht.out, extract_size _ _ _ (by omega)]; omega
          have htd : ((s.data.toList.drop k).drop 8).take n = t.data.toList := by
            rw [Ht.out, extract_data', List.drop_drop, show k + 8 + n - (k + 8) = n from by omega]
          have Htd := Lib.hid htd; clear htd
          have Hts := Lib.hid hts; clear hts
          obtain ⟨u, Hu⟩ : ∃ u, Hid (u = Sum.num ((s.data.toList.drop k).drop 4)) := ⟨_, rfl⟩
          obtain ⟨v, Hv⟩ : ∃ v, Hid (v = Sum.crc t.data.toList) := ⟨_, rfl⟩
          by_cases hC : v = u
          · have HC := Lib.hid hC; clear hC
            have hC' : ((v : Int) != (u : Int)) = false := by rw [HC.out]; simp
            go_wp2
            go_region_held3 (fun _ => True) (trivial) (first
              | (go_at_call 78; refine (crc_one (s.extract (k + 8) (k + 8 + n)) _ _ _ _ ((reads_one w1 _ _).drew) (by rw [← Ht.out, Hts.out]; omega)).mono ?_; rw [← Ht.out, ← Hv.out]; rintro e w' ⟨rfl, rfl⟩)
              | (go_at_call 77; refine (num_data (s.extract (k + 4) s.size) (by rw [extract_size _ _ _ (Nat.le_refl _)]; omega) ((s.data.toList.drop k).drop 4) (by rw [extract_tail, List.drop_drop]) _).mono ?_; rw [← Hu.out]; rintro e w' ⟨rfl, q2, rfl⟩))
            go_wp2_with fail
            rw [← Ht.out]
            refine (clone_any t _ (by rw [Hts.out]; omega)).mono ?_
            rintro e w2 ⟨rfl, hb2⟩
            have hsz2 : w1.heap.size + 1 ≤ w2.heap.size := by simpa using hb2.size
            have hbw2 : Below w.heap.size w w2 := (below_drewN (hb1.alloc hsz1 _) _).trans (hb2.mono (by simp; omega))
            have hown2 : w2.ownsRow w.heap.size 9 1 (.slice A l.length c) l.length (strs (texts l)) := ownsRow_below (w := (w1.alloc (.cells #[.string t] 9)).drewN (1 + q2)) (hown1.alloc _) hb2 (Nat.le_refl _)
            have hll : l.length ≤ 1000000000 := by omega
            have hwz : w.heap.size ≤ w2.heap.size := by omega
            clear hb2 hb1 hown1 hsz1
            go_wp2_with (at_builtin; refine wpList_append_own _ rfl _ _ 22 rfl w.heap.size 9 i0 (.string ⟨#[]⟩) 1 16 Tryz.underlying22 hi hz0 hz1 hz2 rfl (by decide) _ _ _ rfl (hown2.alloc _) ⟨w2.heap.size, 0, none⟩ 1 1 [.string t] rfl rfl ?c1 ?c2 ?c3 ?c4 ?c5 ?_)
            case c1 => exact cell_one_new _ _ _
            case c2 => simp [Value.oneCell']
            case c3 => unfold maxLen; omega
            case c4 => omega
            case c5 => simp; omega
            intro v3 w3 hown3 hgrow3 _
            obtain ⟨A3, c3, rfl⟩ : ∃ A3 c3, v3 = .slice A3 (l.length + 1) c3 := by
              rcases hown3.2 with ⟨_, h0⟩ | ⟨g, cap, cur, hv, _⟩
              · omega
              · exact ⟨_, _, hv⟩
            go_wp2
            go_roundw
            case rel =>
              refine ⟨l ++ [t.data.toList], k + 8 + n, by omega, by simp; omega, by go_num, ?_, ⟨A3, c3, by simp⟩, ?_, ?_⟩
              · show _ = _
                have hh : Sum.head (s.data.toList.drop k) = some t.data.toList := by
                  unfold Sum.head
                  rw [Hnum.out, Htd.out, Hdl.out, if_pos ⟨by omega, by omega, by omega, by rw [← Hv.out, ← Hu.out]; exact HC.out⟩]
                have h1 := HS.out
                rw [Sum.scan_some hh, List.drop_drop, len_data, Hts.out] at h1
                rw [h1, show k + (8 + n) = k + 8 + n from by omega]
                simp [Nat.add_assoc]
              · have e1 : strs (texts (l ++ [t.data.toList])) = strs (texts l) ++ [.string t] := by simp [strs, texts]
                rw [e1]
                simpa using hown3
              · exact (hbw2.alloc (by omega) _).grown hgrow3 (by simp; omega) (fun g hg => (hown2.lt g hg).1)
            case measure => simp [intOf]; omega
          · have HC := Lib.hid hC
            have hC' : ((v : Int) != (u : Int)) = true := by simp; omega
            clear hC
            go_wp2
            go_region_held3 (fun _ => True) (trivial) (first
              | (go_at_call 78; refine (crc_one (s.extract (k + 8) (k + 8 + n)) _ _ _ _ ((reads_one w1 _ _).drew) (by rw [← Ht.out, Hts.out]; omega)).mono ?_; rw [← Ht.out, ← Hv.out]; rintro e w' ⟨rfl, rfl⟩)
              | (go_at_call 77; refine (num_data (s.extract (k + 4) s.size) (by rw [extract_size _ _ _ (Nat.le_refl _)]; omega) ((s.data.toList.drop k).drop 4) (by rw [extract_tail, List.drop_drop]) _).mono ?_; rw [← Hu.out]; rintro e w' ⟨rfl, q2, rfl⟩))
            go_wp2
            go_ret2
            have hfin := Hnone.out (by rw [Hdl.out, Htd.out, ← Hu.out, ← Hv.out]; rintro ⟨_, _, _, h⟩; exact HC.out h)
            rw [hfin]
            exact ⟨A, c, rfl, (hown1.alloc _), below_drewN (hb1.alloc hsz1 _) _⟩
    · go_wp2
      go_ret2
      have hlt : (s.data.toList.drop k).length < 8 := by rw [List.length_drop, len_data]; omega
      have h2 := HS.out
      rw [Sum.scan_short hlt] at h2
      simp only [List.append_nil, Nat.add_zero] at h2
      rw [h2]
      exact ⟨A, c, rfl, hown, hb⟩
end Go.Proofs.YtjhinifmdjlblaaGreat.Sm
