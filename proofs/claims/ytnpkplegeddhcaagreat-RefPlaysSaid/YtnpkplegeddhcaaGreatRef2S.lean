/-
 Package ref as a contract: how several records are added to a map of assets.
 Conditions: the caller's memory stays.
-/
import Derived.Test.YtnpkplegeddhcaaGreatRef2
namespace Go.Proofs.YtnpkplegeddhcaaGreat
open Go.RowKit Go.Maps Go.Shelf

set_option maxHeartbeats 8000000 in
set_option maxRecDepth 10000 in
theorem addedS_any (v : Value) (D : DataW Unit) (l : List Asset) (A : Option Addr) (c : Nat) (w : World) (hv : MapAt Asset v D w) (hg : GoodR Asset D) (hD : Maps.size D ≤ 12) (hr : RowsAt w w.heap.size A 8 l) (hl : l.length ≤ 9223372036854775807) :
  Calls Tryz.prog 63 #[v, .slice A l.length c, .func (.func 64) #[] #[], .int .i64 12, .func (.func 65) #[] #[], .func (.func 66) #[] #[]] w fun e w' =>
   ∃ v', e = .returned (.tuple #[v', .int .i64 (goR (validS) 12 (fun _ => 0) canI D l).1]) ∧ MapAt Asset v' (outR (validS) 12 (fun _ => 0) canI D l) w' ∧ Below w.heap.size w w' ∧ (v' = v ∨ ∃ b', w.heap.size ≤ b' ∧ v' = .map (some b')) := by
 have hgood := goR_good (valid := validS) (most := 12) (ahead := (fun _ => 0)) (behind := canI) ⟨hg, hD⟩
 have hmm := @run_makeMap Tryz.prog
 have q := fun (w : World) (r : Option Nat) => map_nilS w r
 obtain ⟨n, hn⟩ : ∃ n, l.length = n := ⟨_, rfl⟩
 rw [hn] at hl ⊢
 obtain ⟨E, hE⟩ : ∃ E, (goR (validS) 12 (fun _ => 0) canI D l).1 = E := ⟨_, rfl⟩
 obtain ⟨O, hO⟩ : ∃ O, outR (validS) 12 (fun _ => 0) canI D l = O := ⟨_, rfl⟩
 rw [hE, hO]
 have HEO : Hid ((∀ k x Dk e, l[k]? = some x → goR (validS) 12 (fun _ => 0) canI D (l.take k) = (0, Dk) → errR (validS) 12 (fun _ => 0) canI Dk x = e → e ≠ 0 → E = e ∧ O = D) ∧ ∀ Dk, goR (validS) 12 (fun _ => 0) canI D (l.take n) = (0, Dk) → E = 0 ∧ O = Dk) := by
  rw [← hE, ← hO]
  refine ⟨fun k x Dk e h1 h2 h3 h4 => out_bad h1 h2 h3 h4, fun Dk h => ?_⟩
  rw [List.take_of_length_le (by omega)] at h
  exact out_ok h
 have Hn := Lib.hid hn; have HR := Lib.hid hr; have HV := Lib.hid hv; have HG := Lib.hid hgood
 clear hn hr hgood hE hO
 have hex : ∃ mb, v = .map mb := hv.elim (fun h => ⟨_, h.1⟩) (fun ⟨b, h, _⟩ => ⟨_, h⟩)
 have HCL : Hid (∀ W : World, ∀ b, MapAt Asset (.map (some b)) D W → Calls Tryz.prog 156 #[.map (some b)] W fun e w' => e = .returned (.map (some W.heap.size)) ∧ w'.ownsMap Tryz.prog 9 (Kd.E Asset) W.heap.size (Maps.size D) D ∧ Below W.heap.size W w') := by
  intro W b hm
  rcases hm with ⟨h, _⟩ | ⟨b', h, ho⟩
  ·cases h
  ·injection h with h
   injection h with h
   subst h
   refine (AnyW.maps_Clone_owns Tryz.cloneS 9 (Kd.E Asset) b _ D W ho).mono ?_
   rintro e w' ⟨rfl, h1, _, h2⟩
   exact ⟨rfl, h1, h2⟩
 obtain ⟨mb, rfl⟩ := hex
 rcases mb with _ | mb
 ·have hD0 : D = .map [] := hv.elim (fun h => h.2) (fun ⟨b, h, _⟩ => by cases h)
  have HD0 := Lib.hid hD0
  clear hD0 hv
  go_enter Tryz.func63, Tryz.ntmps63
  go_wp2_with fail
  refine (cloneS_nil _).mono ?_
  rintro e w1 ⟨rfl, rfl⟩
  go_wp2
  have HM0 : Hid ((w.alloc (.map #[] 0)).ownsMap Tryz.prog 9 (Kd.E Asset) w.heap.size (Maps.size D) D) := by show World.ownsMap _ _ _ _ _ _ _; rw [HD0.out]; exact World.ownsMap_made _ _ _ _
  have HB0 : Hid (Below w.heap.size w (w.alloc (.map #[] 0))) := (Below.refl _ _).alloc (Nat.le_refl _) _
  obtain ⟨W0, hW0⟩ : ∃ W0, w.alloc (.map #[] 0) = W0 := ⟨_, rfl⟩
  rw [hW0] at HM0 HB0 ⊢
  obtain ⟨b0, hb0⟩ : ∃ b0, w.heap.size = b0 := ⟨_, rfl⟩
  have HB00 := Lib.hid hb0
  rw [hb0] at HM0 ⊢
  clear hW0 hb0 HD0
  go_loopw [29] (fun i wr => ∃ (k : Nat) (Dk : DataW Unit), k ≤ n ∧ i = .int .i64 k ∧ Hid (goR (validS) 12 (fun _ => 0) canI D (l.take k) = (0, Dk)) ∧ Hid (wr.ownsMap Tryz.prog 9 (Kd.E Asset) b0 (Maps.size Dk) Dk) ∧ Hid (Below w.heap.size w wr)) (fun i _ => n - (intOf i).toNat)
  case atStart => exact ⟨0, D, Nat.zero_le _, rfl, rfl, HM0.out, HB0.out⟩
  case round =>
   clear HM0 HB0
   obtain ⟨k, Dk, hk, rfl, HGO, HM, HB⟩ := hrel
   by_cases hlt : k < n
   ·obtain ⟨ad, x, rfl, hab, hxk, hxm, hc⟩ := HR.out.at_ (show k < l.length by rw [Hn.out]; exact hlt)
    have hc' : ∀ j v, (Kd.val x).cells[j]? = some v → wr.cell? ((ad.add (k * 8)).add j) = some v := fun j v hj => (HB.out.cell (by rw [block_of_add, block_of_add]; exact hab)).trans (hc j v hj)
    have e0 : wr.cell? (ad.add (k * 8)) = some (.string x.name) := by have h := hc' 0 _ rfl; rw [show (ad.add (k * 8)).add 0 = ad.add (k * 8) from by rw [add_of_add]; rfl] at h; exact h
    have e1 : wr.cell? ⟨(ad.add (k * 8)).block, (ad.add (k * 8)).off + 1, none⟩ = some (.bool x.cash) := hc' 1 _ rfl
    have e2 : wr.cell? ⟨(ad.add (k * 8)).block, (ad.add (k * 8)).off + 2, none⟩ = some (.bool x.pledge) := hc' 2 _ rfl
    have e3 : wr.cell? ⟨(ad.add (k * 8)).block, (ad.add (k * 8)).off + 3, none⟩ = some (.int .i64 x.unit) := hc' 3 _ rfl
    have e4 : wr.cell? ⟨(ad.add (k * 8)).block, (ad.add (k * 8)).off + 4, none⟩ = some (.int .i64 x.least) := hc' 4 _ rfl
    have e5 : wr.cell? ⟨(ad.add (k * 8)).block, (ad.add (k * 8)).off + 5, none⟩ = some (.int .i64 x.price) := hc' 5 _ rfl
    have e6 : wr.cell? ⟨(ad.add (k * 8)).block, (ad.add (k * 8)).off + 6, none⟩ = some (.int .i64 x.cut) := hc' 6 _ rfl
    have e7 : wr.cell? ⟨(ad.add (k * 8)).block, (ad.add (k * 8)).off + 7, none⟩ = some (.int .i64 x.close) := hc' 7 _ rfl
    have HBAD := Lib.hid (HEO.out.1 k x Dk)
    have HXK := Lib.hid hxk
    have hgk := HG.out (l.take k)
    rw [HGO.out] at hgk
    have hsz20 : Maps.size Dk ≤ 12 := hgk.2
    have HGK := Lib.hid hgk.1
    clear hc hc' hxk hgk
    have hbl := HM.out.lt
    have HC1 : Hid ((wr.alloc (.cells #[.string x.name, .bool x.cash, .bool x.pledge, .int .i64 x.unit, .int .i64 x.least, .int .i64 x.price, .int .i64 x.cut, .int .i64 x.close] 92)).heap[wr.heap.size]? = some (.cells #[.string x.name, .bool x.cash, .bool x.pledge, .int .i64 x.unit, .int .i64 x.least, .int .i64 x.price, .int .i64 x.cut, .int .i64 x.close] 92 (0, 0))) := heap_alloc_new _ _
    have HB1 : Hid (Below w.heap.size w (wr.alloc (.cells #[.string x.name, .bool x.cash, .bool x.pledge, .int .i64 x.unit, .int .i64 x.least, .int .i64 x.price, .int .i64 x.cut, .int .i64 x.close] 92))) := HB.out.alloc HB.out.size _
    have HM1 : Hid ((wr.alloc (.cells #[.string x.name, .bool x.cash, .bool x.pledge, .int .i64 x.unit, .int .i64 x.least, .int .i64 x.price, .int .i64 x.cut, .int .i64 x.close] 92)).ownsMap Tryz.prog 9 (Kd.E Asset) b0 (Maps.size Dk) Dk) := own_keep HM.out (Below.heap_alloc _ _ _ hbl)
    have hzz : wr.heap.size < (wr.alloc (.cells #[.string x.name, .bool x.cash, .bool x.pledge, .int .i64 x.unit, .int .i64 x.least, .int .i64 x.price, .int .i64 x.cut, .int .i64 x.close] 92)).heap.size := by simp
    have hzw := HB.out.size
    obtain ⟨W1, hW1⟩ : ∃ W1, wr.alloc (.cells #[.string x.name, .bool x.cash, .bool x.pledge, .int .i64 x.unit, .int .i64 x.least, .int .i64 x.price, .int .i64 x.cut, .int .i64 x.close] 92) = W1 := ⟨_, rfl⟩
    obtain ⟨c0, hc0⟩ : ∃ c0, wr.heap.size = c0 := ⟨_, rfl⟩
    rw [hW1] at HC1 HB1 HM1 hzz
    rw [hc0] at HC1 hzz hbl hzw
    have HW1 := Lib.hid hW1; have HC0' := Lib.hid hc0
    clear hW1 hc0 HB HM
    go_wp2_with fail
    rw [HW1.out, HC0'.out]
    clear HW1 HC0' e0 e1 e2 e3 e4 e5 e6 e7
    refine (keyS_any c0 _).mono ?_
    rintro e w2 ⟨rfl, rfl⟩
    have c10 : W1.cell? ⟨c0, 0, none⟩ = some (.string x.name) := by rw [Lib.cell_of_heap HC1.out]; rfl
    have c11 : W1.cell? ⟨c0, 1, none⟩ = some (.bool x.cash) := by rw [Lib.cell_of_heap HC1.out]; rfl
    have c12 : W1.cell? ⟨c0, 2, none⟩ = some (.bool x.pledge) := by rw [Lib.cell_of_heap HC1.out]; rfl
    have c13 : W1.cell? ⟨c0, 3, none⟩ = some (.int .i64 x.unit) := by rw [Lib.cell_of_heap HC1.out]; rfl
    have c14 : W1.cell? ⟨c0, 4, none⟩ = some (.int .i64 x.least) := by rw [Lib.cell_of_heap HC1.out]; rfl
    have c15 : W1.cell? ⟨c0, 5, none⟩ = some (.int .i64 x.price) := by rw [Lib.cell_of_heap HC1.out]; rfl
    have c16 : W1.cell? ⟨c0, 6, none⟩ = some (.int .i64 x.cut) := by rw [Lib.cell_of_heap HC1.out]; rfl
    have c17 : W1.cell? ⟨c0, 7, none⟩ = some (.int .i64 x.close) := by rw [Lib.cell_of_heap HC1.out]; rfl
    have hbc : b0 ≠ c0 := by omega
    go_wp2_with fail
    refine (valid_any x.name _).mono ?_
    rintro e w2 ⟨rfl, rfl⟩
    cases hvd : validS x.name
    ·have hE := HBAD.out 9 HXK.out HGO.out (er_valid hvd) (by decide)
     have HE := Lib.hid hE
     clear hE
     go_wp2
     go_ret2
     exact ⟨_, by rw [HE.out.1]; rfl, by rw [HE.out.2]; exact HV.out.below HB1.out, HB1.out, .inl rfl⟩
    ·have hs12 := validS_short hvd
     go_wp2_with fail
     refine (aheadS_any x _).mono ?_
     rintro e w2 ⟨rfl, hb2⟩
     have HB2 := Lib.hid (HB1.out.trans (hb2.mono HB1.out.size))
     have HC2 := Lib.hid ((hb2.block c0 hzz).trans HC1.out)
     have HM2 := Lib.hid (own_keep HM1.out (hb2.block b0 (by omega)))
     have hz2 : c0 < w2.heap.size := Nat.lt_of_lt_of_le hzz hb2.size
     clear hb2 c10 c11 c12 c13 c14 c15 c16 c17
     obtain ⟨y, hy⟩ : ∃ y, recAt Asset Dk x.name = y := ⟨_, rfl⟩
     have hlk0 := run_look_ok (α := Asset) Tryz.underlying80 (zeroS w2) HM2.out HGK.out (s := x.name) (by omega)
     rw [hy] at hlk0
     clear hy
     cases hh : hasS Dk x.name
     ·rw [hh] at hlk0
      have hlk : (Instr.lookup 80 (.map (some b0)) (.string x.name) true).run Tryz.prog w2 = .ok (.tuple #[.agg #[.string y.name, .bool y.cash, .bool y.pledge, .int .i64 y.unit, .int .i64 y.least, .int .i64 y.price, .int .i64 y.cut, .int .i64 y.close], .bool false]) w2 := hlk0
      clear hlk0
      have c20 : w2.cell? ⟨c0, 0, none⟩ = some (.string x.name) := by rw [Lib.cell_of_heap HC2.out]; rfl
      have c21 : w2.cell? ⟨c0, 1, none⟩ = some (.bool x.cash) := by rw [Lib.cell_of_heap HC2.out]; rfl
      have c22 : w2.cell? ⟨c0, 2, none⟩ = some (.bool x.pledge) := by rw [Lib.cell_of_heap HC2.out]; rfl
      have c23 : w2.cell? ⟨c0, 3, none⟩ = some (.int .i64 x.unit) := by rw [Lib.cell_of_heap HC2.out]; rfl
      have c24 : w2.cell? ⟨c0, 4, none⟩ = some (.int .i64 x.least) := by rw [Lib.cell_of_heap HC2.out]; rfl
      have c25 : w2.cell? ⟨c0, 5, none⟩ = some (.int .i64 x.price) := by rw [Lib.cell_of_heap HC2.out]; rfl
      have c26 : w2.cell? ⟨c0, 6, none⟩ = some (.int .i64 x.cut) := by rw [Lib.cell_of_heap HC2.out]; rfl
      have c27 : w2.cell? ⟨c0, 7, none⟩ = some (.int .i64 x.close) := by rw [Lib.cell_of_heap HC2.out]; rfl
      go_wp2_with fail
      refine (behindS_any x _).mono ?_
      rintro e w4 ⟨rfl, hb4⟩
      have hb24 : Below w2.heap.size w2 w4 := ((Below.refl _ _).alloc (Nat.le_refl _) _).trans (hb4.mono (by simp))
      have HB4 := Lib.hid (HB2.out.trans (hb24.mono HB2.out.size))
      have HC4 := Lib.hid ((hb24.block c0 hz2).trans HC2.out)
      have HM4 := Lib.hid (own_keep HM2.out (hb24.block b0 (by omega)))
      have hz4 : c0 < w4.heap.size := Nat.lt_of_lt_of_le hz2 hb24.size
      clear hb4 hb24 hlk c20 c21 c22 c23 c24 c25 c26 c27
      by_cases hbf : canI x = 0
      ·have hbf2 : (canI x != 0) = false := by simp [hbf]
       have hbf3 : canI x = 0 := hbf
       have c40 : w4.cell? ⟨c0, 0, none⟩ = some (.string x.name) := by rw [Lib.cell_of_heap HC4.out]; rfl
       have f40 : w4.frozen? ⟨c0, 0, none⟩ = false := Lib.frozen_of_heap HC4.out 0
       by_cases hmost : 12 ≤ Maps.size Dk
       ·have hE := HBAD.out 10 HXK.out HGO.out (er_most hvd rfl hh hbf hmost) (by decide)
        have HE := Lib.hid hE
        have hm4 := HM4.out
        clear hE
        go_wp2_with (at_len; refine wpList_len_own _ rfl _ 80 rfl 9 92 Tryz.underlying80 _ b0 _ _ rfl hm4 ?_)
        go_ret2
        exact ⟨_, by rw [HE.out.1]; rfl, by rw [HE.out.2]; exact HV.out.below HB4.out, HB4.out, .inl rfl⟩
       ·have hstep := goR_step HXK.out HGO.out (er_none hvd rfl hh hbf hmost)
        have HST := Lib.hid hstep
        have hm4 := HM4.out
        clear hstep
        go_wp2_with (at_len; refine wpList_len_own _ rfl _ 80 rfl 9 92 Tryz.underlying80 _ b0 _ _ rfl hm4 ?_)
        refine (clone_any x.name _ (by omega)).mono ?_
        rintro e w5 ⟨rfl, hb5⟩
        have HB5 := Lib.hid (HB4.out.trans (hb5.mono HB4.out.size))
        have hc5 := (hb5.block c0 hz4).trans HC4.out
        have hm5 := own_keep hm4 (hb5.block b0 (by omega))
        have hz5 : c0 < w5.heap.size := Nat.lt_of_lt_of_le hz4 hb5.size
        have c50 : w5.cell? ⟨c0, 0, none⟩ = some (.string x.name) := by rw [Lib.cell_of_heap hc5]; rfl
        have f50 : w5.frozen? ⟨c0, 0, none⟩ = false := Lib.frozen_of_heap hc5 0
        have HC6 : Hid ((w5.setCell ⟨c0, 0, none⟩ (.string x.name)).heap[c0]? = some (.cells #[.string x.name, .bool x.cash, .bool x.pledge, .int .i64 x.unit, .int .i64 x.least, .int .i64 x.price, .int .i64 x.cut, .int .i64 x.close] 92 (0, 0))) := Blk.set_ (show Blk w5 c0 92 _ from hc5) 0 _
        have HM6 : Hid ((w5.setCell ⟨c0, 0, none⟩ (.string x.name)).ownsMap Tryz.prog 9 (Kd.E Asset) b0 (Maps.size Dk) Dk) := own_keep hm5 (Below.heap_setCell _ _ _ _ hbc)
        have HB6 : Hid (Below w.heap.size w (w5.setCell ⟨c0, 0, none⟩ (.string x.name))) := HB5.out.setCell (p := ⟨c0, 0, none⟩) hzw _
        obtain ⟨W6, hW6⟩ : ∃ W6, w5.setCell ⟨c0, 0, none⟩ (.string x.name) = W6 := ⟨_, rfl⟩
        rw [hW6] at HC6 HM6 HB6
        have HW6 := Lib.hid hW6
        clear hb5 hc5 hm5 hW6 c40 f40 hm4 HM4 HC4 HB4 HB5
        go_wp2
        rw [HW6.out]
        clear c50 f50 HW6
        obtain ⟨w7, hrun7, hown7, hgrow7⟩ := (show (W6.drew).ownsMap Tryz.prog 9 (Kd.E Asset) b0 (Maps.size Dk) Dk from HM6.out).update keyT Tryz.underlying80 (by unfold maxLen; omega) (key_str (s := x.name) (by omega)) (Kd.E_mk x)
        have hrun : (Instr.mapUpdate 80 (.map (some b0)) (.string x.name) (.agg #[.string x.name, .bool x.cash, .bool x.pledge, .int .i64 x.unit, .int .i64 x.least, .int .i64 x.price, .int .i64 x.cut, .int .i64 x.close])).run Tryz.prog W6.drew = .ok () w7 := hrun7
        have S6 : W6.cell? ⟨c0, 0, none⟩ = some (.string x.name) ∧ W6.cell? ⟨c0, 1, none⟩ = some (.bool x.cash) ∧ W6.cell? ⟨c0, 2, none⟩ = some (.bool x.pledge) ∧ W6.cell? ⟨c0, 3, none⟩ = some (.int .i64 x.unit) ∧ W6.cell? ⟨c0, 4, none⟩ = some (.int .i64 x.least) ∧ W6.cell? ⟨c0, 5, none⟩ = some (.int .i64 x.price) ∧ W6.cell? ⟨c0, 6, none⟩ = some (.int .i64 x.cut) ∧ W6.cell? ⟨c0, 7, none⟩ = some (.int .i64 x.close) := ⟨by rw [Lib.cell_of_heap HC6.out]; rfl, by rw [Lib.cell_of_heap HC6.out]; rfl, by rw [Lib.cell_of_heap HC6.out]; rfl, by rw [Lib.cell_of_heap HC6.out]; rfl, by rw [Lib.cell_of_heap HC6.out]; rfl, by rw [Lib.cell_of_heap HC6.out]; rfl, by rw [Lib.cell_of_heap HC6.out]; rfl, by rw [Lib.cell_of_heap HC6.out]; rfl⟩
        have hz6 : c0 < W6.heap.size := Blk.lt (t := 92) HC6.out
        have hc7 : w7.heap[c0]? = some (.cells #[.string x.name, .bool x.cash, .bool x.pledge, .int .i64 x.unit, .int .i64 x.least, .int .i64 x.price, .int .i64 x.cut, .int .i64 x.close] 92 (0, 0)) := (hgrow7.block c0 hz6 (fun e => hbc (by injection e with e; exact e.symm))).trans HC6.out
        have S7 : w7.cell? ⟨c0, 0, none⟩ = some (.string x.name) ∧ w7.cell? ⟨c0, 1, none⟩ = some (.bool x.cash) ∧ w7.cell? ⟨c0, 2, none⟩ = some (.bool x.pledge) ∧ w7.cell? ⟨c0, 3, none⟩ = some (.int .i64 x.unit) ∧ w7.cell? ⟨c0, 4, none⟩ = some (.int .i64 x.least) ∧ w7.cell? ⟨c0, 5, none⟩ = some (.int .i64 x.price) ∧ w7.cell? ⟨c0, 6, none⟩ = some (.int .i64 x.cut) ∧ w7.cell? ⟨c0, 7, none⟩ = some (.int .i64 x.close) := ⟨by rw [Lib.cell_of_heap hc7]; rfl, by rw [Lib.cell_of_heap hc7]; rfl, by rw [Lib.cell_of_heap hc7]; rfl, by rw [Lib.cell_of_heap hc7]; rfl, by rw [Lib.cell_of_heap hc7]; rfl, by rw [Lib.cell_of_heap hc7]; rfl, by rw [Lib.cell_of_heap hc7]; rfl, by rw [Lib.cell_of_heap hc7]; rfl⟩
        have HM7 := Lib.hid (own_tight hown7)
        have HB7 := Lib.hid (HB6.out.drew.grown hgrow7 (by have := HB6.out.size; exact this) (by intro j hj; injection hj with hj; have := HB00.out; omega))
        clear hrun7 hown7 hgrow7 hc7
        go_region_held3 (fun V => V.cell? ⟨c0, 0, none⟩ = some (.string x.name) ∧ V.cell? ⟨c0, 1, none⟩ = some (.bool x.cash) ∧ V.cell? ⟨c0, 2, none⟩ = some (.bool x.pledge) ∧ V.cell? ⟨c0, 3, none⟩ = some (.int .i64 x.unit) ∧ V.cell? ⟨c0, 4, none⟩ = some (.int .i64 x.least) ∧ V.cell? ⟨c0, 5, none⟩ = some (.int .i64 x.price) ∧ V.cell? ⟨c0, 6, none⟩ = some (.int .i64 x.cut) ∧ V.cell? ⟨c0, 7, none⟩ = some (.int .i64 x.close)) (first | exact S6 | exact S7) (fail)
        go_wp2
        go_roundw
        case rel => exact ⟨k + 1, putR Dk x.name x, hlt, by go_num, HST.out, HM7.out, HB7.out⟩
        case measure => simp [intOf]; omega
      ·have hbf2 : (canI x != 0) = true := by simp [hbf]
       have hE := HBAD.out _ HXK.out HGO.out (er_behind hvd rfl hh hbf) hbf
       have HE := Lib.hid hE
       clear hE hbf
       go_wp2
       go_ret2
       exact ⟨_, by rw [HE.out.1]; rfl, by rw [HE.out.2]; exact HV.out.below HB4.out, HB4.out, .inl rfl⟩
     ·rw [hh] at hlk0
      have hlk : (Instr.lookup 80 (.map (some b0)) (.string x.name) true).run Tryz.prog w2 = .ok (.tuple #[.agg #[.string y.name, .bool y.cash, .bool y.pledge, .int .i64 y.unit, .int .i64 y.least, .int .i64 y.price, .int .i64 y.cut, .int .i64 y.close], .bool true]) w2 := hlk0
      clear hlk0
      have hE := HBAD.out 8 HXK.out HGO.out (er_has hvd rfl hh) (by decide)
      have HE := Lib.hid hE
      have c20 : w2.cell? ⟨c0, 0, none⟩ = some (.string x.name) := by rw [Lib.cell_of_heap HC2.out]; rfl
      clear hE
      go_wp2
      go_ret2
      exact ⟨_, by rw [HE.out.1]; rfl, by rw [HE.out.2]; exact HV.out.below (HB2.out.alloc HB2.out.size _), HB2.out.alloc HB2.out.size _, .inl rfl⟩
   ·obtain rfl : k = n := by omega
    have hE := HEO.out.2 Dk HGO.out
    have HE := Lib.hid hE
    clear hE
    go_wp2
    go_ret2
    exact ⟨_, by rw [HE.out.1]; rfl, by rw [HE.out.2]; exact .inr ⟨b0, rfl, HM.out⟩, HB.out, .inr ⟨b0, Nat.le_of_eq HB00.out, rfl⟩⟩
 ·go_enter Tryz.func63, Tryz.ntmps63
  go_wp2_with fail
  refine (HCL.out _ _ hv).mono ?_
  rintro e W0 ⟨rfl, hown, hb1⟩
  have HM0 := Lib.hid hown
  have HB0 := Lib.hid hb1
  clear hv hown hb1
  go_wp2
  obtain ⟨b0, hb0⟩ : ∃ b0, w.heap.size = b0 := ⟨_, rfl⟩
  have HB00 := Lib.hid hb0
  rw [hb0] at HM0 ⊢
  clear hb0
  go_loopw [29] (fun i wr => ∃ (k : Nat) (Dk : DataW Unit), k ≤ n ∧ i = .int .i64 k ∧ Hid (goR (validS) 12 (fun _ => 0) canI D (l.take k) = (0, Dk)) ∧ Hid (wr.ownsMap Tryz.prog 9 (Kd.E Asset) b0 (Maps.size Dk) Dk) ∧ Hid (Below w.heap.size w wr)) (fun i _ => n - (intOf i).toNat)
  case atStart => exact ⟨0, D, Nat.zero_le _, rfl, rfl, HM0.out, HB0.out⟩
  case round =>
   clear HM0 HB0
   obtain ⟨k, Dk, hk, rfl, HGO, HM, HB⟩ := hrel
   by_cases hlt : k < n
   ·obtain ⟨ad, x, rfl, hab, hxk, hxm, hc⟩ := HR.out.at_ (show k < l.length by rw [Hn.out]; exact hlt)
    have hc' : ∀ j v, (Kd.val x).cells[j]? = some v → wr.cell? ((ad.add (k * 8)).add j) = some v := fun j v hj => (HB.out.cell (by rw [block_of_add, block_of_add]; exact hab)).trans (hc j v hj)
    have e0 : wr.cell? (ad.add (k * 8)) = some (.string x.name) := by have h := hc' 0 _ rfl; rw [show (ad.add (k * 8)).add 0 = ad.add (k * 8) from by rw [add_of_add]; rfl] at h; exact h
    have e1 : wr.cell? ⟨(ad.add (k * 8)).block, (ad.add (k * 8)).off + 1, none⟩ = some (.bool x.cash) := hc' 1 _ rfl
    have e2 : wr.cell? ⟨(ad.add (k * 8)).block, (ad.add (k * 8)).off + 2, none⟩ = some (.bool x.pledge) := hc' 2 _ rfl
    have e3 : wr.cell? ⟨(ad.add (k * 8)).block, (ad.add (k * 8)).off + 3, none⟩ = some (.int .i64 x.unit) := hc' 3 _ rfl
    have e4 : wr.cell? ⟨(ad.add (k * 8)).block, (ad.add (k * 8)).off + 4, none⟩ = some (.int .i64 x.least) := hc' 4 _ rfl
    have e5 : wr.cell? ⟨(ad.add (k * 8)).block, (ad.add (k * 8)).off + 5, none⟩ = some (.int .i64 x.price) := hc' 5 _ rfl
    have e6 : wr.cell? ⟨(ad.add (k * 8)).block, (ad.add (k * 8)).off + 6, none⟩ = some (.int .i64 x.cut) := hc' 6 _ rfl
    have e7 : wr.cell? ⟨(ad.add (k * 8)).block, (ad.add (k * 8)).off + 7, none⟩ = some (.int .i64 x.close) := hc' 7 _ rfl
    have HBAD := Lib.hid (HEO.out.1 k x Dk)
    have HXK := Lib.hid hxk
    have hgk := HG.out (l.take k)
    rw [HGO.out] at hgk
    have hsz20 : Maps.size Dk ≤ 12 := hgk.2
    have HGK := Lib.hid hgk.1
    clear hc hc' hxk hgk
    have hbl := HM.out.lt
    have HC1 : Hid ((wr.alloc (.cells #[.string x.name, .bool x.cash, .bool x.pledge, .int .i64 x.unit, .int .i64 x.least, .int .i64 x.price, .int .i64 x.cut, .int .i64 x.close] 92)).heap[wr.heap.size]? = some (.cells #[.string x.name, .bool x.cash, .bool x.pledge, .int .i64 x.unit, .int .i64 x.least, .int .i64 x.price, .int .i64 x.cut, .int .i64 x.close] 92 (0, 0))) := heap_alloc_new _ _
    have HB1 : Hid (Below w.heap.size w (wr.alloc (.cells #[.string x.name, .bool x.cash, .bool x.pledge, .int .i64 x.unit, .int .i64 x.least, .int .i64 x.price, .int .i64 x.cut, .int .i64 x.close] 92))) := HB.out.alloc HB.out.size _
    have HM1 : Hid ((wr.alloc (.cells #[.string x.name, .bool x.cash, .bool x.pledge, .int .i64 x.unit, .int .i64 x.least, .int .i64 x.price, .int .i64 x.cut, .int .i64 x.close] 92)).ownsMap Tryz.prog 9 (Kd.E Asset) b0 (Maps.size Dk) Dk) := own_keep HM.out (Below.heap_alloc _ _ _ hbl)
    have hzz : wr.heap.size < (wr.alloc (.cells #[.string x.name, .bool x.cash, .bool x.pledge, .int .i64 x.unit, .int .i64 x.least, .int .i64 x.price, .int .i64 x.cut, .int .i64 x.close] 92)).heap.size := by simp
    have hzw := HB.out.size
    obtain ⟨W1, hW1⟩ : ∃ W1, wr.alloc (.cells #[.string x.name, .bool x.cash, .bool x.pledge, .int .i64 x.unit, .int .i64 x.least, .int .i64 x.price, .int .i64 x.cut, .int .i64 x.close] 92) = W1 := ⟨_, rfl⟩
    obtain ⟨c0, hc0⟩ : ∃ c0, wr.heap.size = c0 := ⟨_, rfl⟩
    rw [hW1] at HC1 HB1 HM1 hzz
    rw [hc0] at HC1 hzz hbl hzw
    have HW1 := Lib.hid hW1; have HC0' := Lib.hid hc0
    clear hW1 hc0 HB HM
    go_wp2_with fail
    rw [HW1.out, HC0'.out]
    clear HW1 HC0' e0 e1 e2 e3 e4 e5 e6 e7
    refine (keyS_any c0 _).mono ?_
    rintro e w2 ⟨rfl, rfl⟩
    have c10 : W1.cell? ⟨c0, 0, none⟩ = some (.string x.name) := by rw [Lib.cell_of_heap HC1.out]; rfl
    have c11 : W1.cell? ⟨c0, 1, none⟩ = some (.bool x.cash) := by rw [Lib.cell_of_heap HC1.out]; rfl
    have c12 : W1.cell? ⟨c0, 2, none⟩ = some (.bool x.pledge) := by rw [Lib.cell_of_heap HC1.out]; rfl
    have c13 : W1.cell? ⟨c0, 3, none⟩ = some (.int .i64 x.unit) := by rw [Lib.cell_of_heap HC1.out]; rfl
    have c14 : W1.cell? ⟨c0, 4, none⟩ = some (.int .i64 x.least) := by rw [Lib.cell_of_heap HC1.out]; rfl
    have c15 : W1.cell? ⟨c0, 5, none⟩ = some (.int .i64 x.price) := by rw [Lib.cell_of_heap HC1.out]; rfl
    have c16 : W1.cell? ⟨c0, 6, none⟩ = some (.int .i64 x.cut) := by rw [Lib.cell_of_heap HC1.out]; rfl
    have c17 : W1.cell? ⟨c0, 7, none⟩ = some (.int .i64 x.close) := by rw [Lib.cell_of_heap HC1.out]; rfl
    have hbc : b0 ≠ c0 := by omega
    go_wp2_with fail
    refine (valid_any x.name _).mono ?_
    rintro e w2 ⟨rfl, rfl⟩
    cases hvd : validS x.name
    ·have hE := HBAD.out 9 HXK.out HGO.out (er_valid hvd) (by decide)
     have HE := Lib.hid hE
     clear hE
     go_wp2
     go_ret2
     exact ⟨_, by rw [HE.out.1]; rfl, by rw [HE.out.2]; exact HV.out.below HB1.out, HB1.out, .inl rfl⟩
    ·have hs12 := validS_short hvd
     go_wp2_with fail
     refine (aheadS_any x _).mono ?_
     rintro e w2 ⟨rfl, hb2⟩
     have HB2 := Lib.hid (HB1.out.trans (hb2.mono HB1.out.size))
     have HC2 := Lib.hid ((hb2.block c0 hzz).trans HC1.out)
     have HM2 := Lib.hid (own_keep HM1.out (hb2.block b0 (by omega)))
     have hz2 : c0 < w2.heap.size := Nat.lt_of_lt_of_le hzz hb2.size
     clear hb2 c10 c11 c12 c13 c14 c15 c16 c17
     obtain ⟨y, hy⟩ : ∃ y, recAt Asset Dk x.name = y := ⟨_, rfl⟩
     have hlk0 := run_look_ok (α := Asset) Tryz.underlying80 (zeroS w2) HM2.out HGK.out (s := x.name) (by omega)
     rw [hy] at hlk0
     clear hy
     cases hh : hasS Dk x.name
     ·rw [hh] at hlk0
      have hlk : (Instr.lookup 80 (.map (some b0)) (.string x.name) true).run Tryz.prog w2 = .ok (.tuple #[.agg #[.string y.name, .bool y.cash, .bool y.pledge, .int .i64 y.unit, .int .i64 y.least, .int .i64 y.price, .int .i64 y.cut, .int .i64 y.close], .bool false]) w2 := hlk0
      clear hlk0
      have c20 : w2.cell? ⟨c0, 0, none⟩ = some (.string x.name) := by rw [Lib.cell_of_heap HC2.out]; rfl
      have c21 : w2.cell? ⟨c0, 1, none⟩ = some (.bool x.cash) := by rw [Lib.cell_of_heap HC2.out]; rfl
      have c22 : w2.cell? ⟨c0, 2, none⟩ = some (.bool x.pledge) := by rw [Lib.cell_of_heap HC2.out]; rfl
      have c23 : w2.cell? ⟨c0, 3, none⟩ = some (.int .i64 x.unit) := by rw [Lib.cell_of_heap HC2.out]; rfl
      have c24 : w2.cell? ⟨c0, 4, none⟩ = some (.int .i64 x.least) := by rw [Lib.cell_of_heap HC2.out]; rfl
      have c25 : w2.cell? ⟨c0, 5, none⟩ = some (.int .i64 x.price) := by rw [Lib.cell_of_heap HC2.out]; rfl
      have c26 : w2.cell? ⟨c0, 6, none⟩ = some (.int .i64 x.cut) := by rw [Lib.cell_of_heap HC2.out]; rfl
      have c27 : w2.cell? ⟨c0, 7, none⟩ = some (.int .i64 x.close) := by rw [Lib.cell_of_heap HC2.out]; rfl
      go_wp2_with fail
      refine (behindS_any x _).mono ?_
      rintro e w4 ⟨rfl, hb4⟩
      have hb24 : Below w2.heap.size w2 w4 := ((Below.refl _ _).alloc (Nat.le_refl _) _).trans (hb4.mono (by simp))
      have HB4 := Lib.hid (HB2.out.trans (hb24.mono HB2.out.size))
      have HC4 := Lib.hid ((hb24.block c0 hz2).trans HC2.out)
      have HM4 := Lib.hid (own_keep HM2.out (hb24.block b0 (by omega)))
      have hz4 : c0 < w4.heap.size := Nat.lt_of_lt_of_le hz2 hb24.size
      clear hb4 hb24 hlk c20 c21 c22 c23 c24 c25 c26 c27
      by_cases hbf : canI x = 0
      ·have hbf2 : (canI x != 0) = false := by simp [hbf]
       have hbf3 : canI x = 0 := hbf
       have c40 : w4.cell? ⟨c0, 0, none⟩ = some (.string x.name) := by rw [Lib.cell_of_heap HC4.out]; rfl
       have f40 : w4.frozen? ⟨c0, 0, none⟩ = false := Lib.frozen_of_heap HC4.out 0
       by_cases hmost : 12 ≤ Maps.size Dk
       ·have hE := HBAD.out 10 HXK.out HGO.out (er_most hvd rfl hh hbf hmost) (by decide)
        have HE := Lib.hid hE
        have hm4 := HM4.out
        clear hE
        go_wp2_with (at_len; refine wpList_len_own _ rfl _ 80 rfl 9 92 Tryz.underlying80 _ b0 _ _ rfl hm4 ?_)
        go_ret2
        exact ⟨_, by rw [HE.out.1]; rfl, by rw [HE.out.2]; exact HV.out.below HB4.out, HB4.out, .inl rfl⟩
       ·have hstep := goR_step HXK.out HGO.out (er_none hvd rfl hh hbf hmost)
        have HST := Lib.hid hstep
        have hm4 := HM4.out
        clear hstep
        go_wp2_with (at_len; refine wpList_len_own _ rfl _ 80 rfl 9 92 Tryz.underlying80 _ b0 _ _ rfl hm4 ?_)
        refine (clone_any x.name _ (by omega)).mono ?_
        rintro e w5 ⟨rfl, hb5⟩
        have HB5 := Lib.hid (HB4.out.trans (hb5.mono HB4.out.size))
        have hc5 := (hb5.block c0 hz4).trans HC4.out
        have hm5 := own_keep hm4 (hb5.block b0 (by omega))
        have hz5 : c0 < w5.heap.size := Nat.lt_of_lt_of_le hz4 hb5.size
        have c50 : w5.cell? ⟨c0, 0, none⟩ = some (.string x.name) := by rw [Lib.cell_of_heap hc5]; rfl
        have f50 : w5.frozen? ⟨c0, 0, none⟩ = false := Lib.frozen_of_heap hc5 0
        have HC6 : Hid ((w5.setCell ⟨c0, 0, none⟩ (.string x.name)).heap[c0]? = some (.cells #[.string x.name, .bool x.cash, .bool x.pledge, .int .i64 x.unit, .int .i64 x.least, .int .i64 x.price, .int .i64 x.cut, .int .i64 x.close] 92 (0, 0))) := Blk.set_ (show Blk w5 c0 92 _ from hc5) 0 _
        have HM6 : Hid ((w5.setCell ⟨c0, 0, none⟩ (.string x.name)).ownsMap Tryz.prog 9 (Kd.E Asset) b0 (Maps.size Dk) Dk) := own_keep hm5 (Below.heap_setCell _ _ _ _ hbc)
        have HB6 : Hid (Below w.heap.size w (w5.setCell ⟨c0, 0, none⟩ (.string x.name))) := HB5.out.setCell (p := ⟨c0, 0, none⟩) hzw _
        obtain ⟨W6, hW6⟩ : ∃ W6, w5.setCell ⟨c0, 0, none⟩ (.string x.name) = W6 := ⟨_, rfl⟩
        rw [hW6] at HC6 HM6 HB6
        have HW6 := Lib.hid hW6
        clear hb5 hc5 hm5 hW6 c40 f40 hm4 HM4 HC4 HB4 HB5
        go_wp2
        rw [HW6.out]
        clear c50 f50 HW6
        obtain ⟨w7, hrun7, hown7, hgrow7⟩ := (show (W6.drew).ownsMap Tryz.prog 9 (Kd.E Asset) b0 (Maps.size Dk) Dk from HM6.out).update keyT Tryz.underlying80 (by unfold maxLen; omega) (key_str (s := x.name) (by omega)) (Kd.E_mk x)
        have hrun : (Instr.mapUpdate 80 (.map (some b0)) (.string x.name) (.agg #[.string x.name, .bool x.cash, .bool x.pledge, .int .i64 x.unit, .int .i64 x.least, .int .i64 x.price, .int .i64 x.cut, .int .i64 x.close])).run Tryz.prog W6.drew = .ok () w7 := hrun7
        have S6 : W6.cell? ⟨c0, 0, none⟩ = some (.string x.name) ∧ W6.cell? ⟨c0, 1, none⟩ = some (.bool x.cash) ∧ W6.cell? ⟨c0, 2, none⟩ = some (.bool x.pledge) ∧ W6.cell? ⟨c0, 3, none⟩ = some (.int .i64 x.unit) ∧ W6.cell? ⟨c0, 4, none⟩ = some (.int .i64 x.least) ∧ W6.cell? ⟨c0, 5, none⟩ = some (.int .i64 x.price) ∧ W6.cell? ⟨c0, 6, none⟩ = some (.int .i64 x.cut) ∧ W6.cell? ⟨c0, 7, none⟩ = some (.int .i64 x.close) := ⟨by rw [Lib.cell_of_heap HC6.out]; rfl, by rw [Lib.cell_of_heap HC6.out]; rfl, by rw [Lib.cell_of_heap HC6.out]; rfl, by rw [Lib.cell_of_heap HC6.out]; rfl, by rw [Lib.cell_of_heap HC6.out]; rfl, by rw [Lib.cell_of_heap HC6.out]; rfl, by rw [Lib.cell_of_heap HC6.out]; rfl, by rw [Lib.cell_of_heap HC6.out]; rfl⟩
        have hz6 : c0 < W6.heap.size := Blk.lt (t := 92) HC6.out
        have hc7 : w7.heap[c0]? = some (.cells #[.string x.name, .bool x.cash, .bool x.pledge, .int .i64 x.unit, .int .i64 x.least, .int .i64 x.price, .int .i64 x.cut, .int .i64 x.close] 92 (0, 0)) := (hgrow7.block c0 hz6 (fun e => hbc (by injection e with e; exact e.symm))).trans HC6.out
        have S7 : w7.cell? ⟨c0, 0, none⟩ = some (.string x.name) ∧ w7.cell? ⟨c0, 1, none⟩ = some (.bool x.cash) ∧ w7.cell? ⟨c0, 2, none⟩ = some (.bool x.pledge) ∧ w7.cell? ⟨c0, 3, none⟩ = some (.int .i64 x.unit) ∧ w7.cell? ⟨c0, 4, none⟩ = some (.int .i64 x.least) ∧ w7.cell? ⟨c0, 5, none⟩ = some (.int .i64 x.price) ∧ w7.cell? ⟨c0, 6, none⟩ = some (.int .i64 x.cut) ∧ w7.cell? ⟨c0, 7, none⟩ = some (.int .i64 x.close) := ⟨by rw [Lib.cell_of_heap hc7]; rfl, by rw [Lib.cell_of_heap hc7]; rfl, by rw [Lib.cell_of_heap hc7]; rfl, by rw [Lib.cell_of_heap hc7]; rfl, by rw [Lib.cell_of_heap hc7]; rfl, by rw [Lib.cell_of_heap hc7]; rfl, by rw [Lib.cell_of_heap hc7]; rfl, by rw [Lib.cell_of_heap hc7]; rfl⟩
        have HM7 := Lib.hid (own_tight hown7)
        have HB7 := Lib.hid (HB6.out.drew.grown hgrow7 (by have := HB6.out.size; exact this) (by intro j hj; injection hj with hj; have := HB00.out; omega))
        clear hrun7 hown7 hgrow7 hc7
        go_region_held3 (fun V => V.cell? ⟨c0, 0, none⟩ = some (.string x.name) ∧ V.cell? ⟨c0, 1, none⟩ = some (.bool x.cash) ∧ V.cell? ⟨c0, 2, none⟩ = some (.bool x.pledge) ∧ V.cell? ⟨c0, 3, none⟩ = some (.int .i64 x.unit) ∧ V.cell? ⟨c0, 4, none⟩ = some (.int .i64 x.least) ∧ V.cell? ⟨c0, 5, none⟩ = some (.int .i64 x.price) ∧ V.cell? ⟨c0, 6, none⟩ = some (.int .i64 x.cut) ∧ V.cell? ⟨c0, 7, none⟩ = some (.int .i64 x.close)) (first | exact S6 | exact S7) (fail)
        go_wp2
        go_roundw
        case rel => exact ⟨k + 1, putR Dk x.name x, hlt, by go_num, HST.out, HM7.out, HB7.out⟩
        case measure => simp [intOf]; omega
      ·have hbf2 : (canI x != 0) = true := by simp [hbf]
       have hE := HBAD.out _ HXK.out HGO.out (er_behind hvd rfl hh hbf) hbf
       have HE := Lib.hid hE
       clear hE hbf
       go_wp2
       go_ret2
       exact ⟨_, by rw [HE.out.1]; rfl, by rw [HE.out.2]; exact HV.out.below HB4.out, HB4.out, .inl rfl⟩
     ·rw [hh] at hlk0
      have hlk : (Instr.lookup 80 (.map (some b0)) (.string x.name) true).run Tryz.prog w2 = .ok (.tuple #[.agg #[.string y.name, .bool y.cash, .bool y.pledge, .int .i64 y.unit, .int .i64 y.least, .int .i64 y.price, .int .i64 y.cut, .int .i64 y.close], .bool true]) w2 := hlk0
      clear hlk0
      have hE := HBAD.out 8 HXK.out HGO.out (er_has hvd rfl hh) (by decide)
      have HE := Lib.hid hE
      have c20 : w2.cell? ⟨c0, 0, none⟩ = some (.string x.name) := by rw [Lib.cell_of_heap HC2.out]; rfl
      clear hE
      go_wp2
      go_ret2
      exact ⟨_, by rw [HE.out.1]; rfl, by rw [HE.out.2]; exact HV.out.below (HB2.out.alloc HB2.out.size _), HB2.out.alloc HB2.out.size _, .inl rfl⟩
   ·obtain rfl : k = n := by omega
    have hE := HEO.out.2 Dk HGO.out
    have HE := Lib.hid hE
    clear hE
    go_wp2
    go_ret2
    exact ⟨_, by rw [HE.out.1]; rfl, by rw [HE.out.2]; exact .inr ⟨b0, rfl, HM.out⟩, HB.out, .inr ⟨b0, Nat.le_of_eq HB00.out, rfl⟩⟩
end Go.Proofs.YtnpkplegeddhcaaGreat
