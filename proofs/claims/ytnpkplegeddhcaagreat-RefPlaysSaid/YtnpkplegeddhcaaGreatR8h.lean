/-
 The document's calendar (complineref8) closed on more days.
 Conditions: ints.
-/
import Derived.Test.YtnpkplegeddhcaaGreatTk
import Derived.Test.YtnpkplegeddhcaaGreatR8g
import Derived.Deep.DeepCutAuto
import Derived.Deep.CutBlock
namespace Go.Proofs.YtnpkplegeddhcaaGreat
open Go.RowKit Go.Maps Go.Shelf
attribute [local go_sem ↓] Go.wp_at_zero Go.wp_at_succ
set_option maxRecDepth 100000

theorem info_int8 : (Tryz.prog.info? 3).map (fun i => (i.zero.map (·.cells.size), i.size, i.bytes)) = some (some 1, 1, 8) := by kernel_rfl
def ins8 (L : List Int) (d : Int) : List Int := if d ∈ L then L else L.takeWhile (fun z => decide (z < d)) ++ [d] ++ L.dropWhile (fun z => decide (z < d))
def fold8 (L l : List Int) : List Int := l.foldl ins8 L
def errC8 (L l : List Int) : Int := if l.any (fun d => !dayB d) then 17 else if 300 < (fold8 L l).length then 2 else 0
def outC8 (L l : List Int) : List Int := if errC8 L l = 0 then fold8 L l else L
theorem fold8_step {L l : List Int} {k : Nat} {d : Int} (h : l[k]? = some d) : fold8 L (l.take (k + 1)) = ins8 (fold8 L (l.take k)) d := by
 unfold fold8
 rw [take_snoc h, List.foldl_append]
 rfl
theorem ins8_len (L : List Int) (d : Int) : (ins8 L d).length ≤ L.length + 1 := by
 unfold ins8
 split
 ·omega
 ·have h : (L.takeWhile (fun z => decide (z < d))).length + (L.dropWhile (fun z => decide (z < d))).length = L.length := by
   rw [← List.length_append, List.takeWhile_append_dropWhile]
  simp only [List.length_append, List.length_cons, List.length_nil]
  omega
theorem fold8_len (l : List Int) : ∀ L, (fold8 L l).length ≤ L.length + l.length := by
 induction l with
 | nil => intro L; exact Nat.le_refl _
 | cons d l ih =>
  intro L
  have h1 := ih (ins8 L d)
  have h2 := ins8_len L d
  show (fold8 (ins8 L d) l).length ≤ _
  simp only [List.length_cons]
  omega
theorem ins8_at {L : List Int} {d : Int} {j : Nat} (hd : d ∉ L) (hj : j ≤ L.length) (h1 : ∀ (i : Nat) (z : Int), i < j → L[i]? = some z → z < d) (h2 : ∀ z, L[j]? = some z → ¬ z < d) : ins8 L d = L.take j ++ [d] ++ L.drop j := by
 unfold ins8
 rw [if_neg hd]
 have := takeWhile_at (p := fun z => decide (z < d)) hj (fun i z hi hz => decide_eq_true (h1 i z hi hz)) (fun z hz => decide_eq_false (h2 z hz))
 rw [this.1, this.2]
theorem in_of_own {w : World} {base n x : Nat} {v : Value} {l : List Int} (h : w.ownsRow base 3 1 v n (ints l)) (hn : l.length = n) (hx : x < base) : InAt x v l w := by
 subst hn
 rcases h.2 with ⟨rfl, hxs⟩ | ⟨g, cap, cur, rfl, hb, hh, hcc, _⟩
 ·exact ⟨none, 0, by rw [hxs], by omega, ⟨by simp [ints], fun hn => by omega⟩, fun hn => by omega⟩
 ·exact ⟨_, _, rfl, hcc, Reads.of_own h, fun _ ad e => by injection e with e; subst e; show g ≠ x; omega⟩
set_option maxHeartbeats 40000000 in
theorem close8_any (x : Nat) (st : R8) (l : List Int) (B : Option Addr) (c : Nat) (w : World) (h : R8At x st w) (hr : Reads w w.heap.size 1 B l.length (ints l)) (hl : l.length ≤ 50000) (hL : st.l.length ≤ 50000) :
  Calls Tryz.prog 8 #[.pointer (some ⟨x, 0, none⟩), .slice B l.length c] w fun e w' => e = .returned (.int .i64 (errC8 st.l l)) ∧ R8At x ⟨outC8 st.l l, st.p, st.a, st.s⟩ w' ∧ Mv [x] [x] w w' := by
 obtain ⟨i0, z0, hinf, hz0, hz1, hz2, hz3⟩ := info_all info_int8
 have hxl := h.lt
 have HK := Lib.hid h
 obtain ⟨vl, vp, va, vs, hb, ⟨Al, cl, rfl, hcl, hRl, _⟩, _⟩ := h
 obtain ⟨L, hLL⟩ : ∃ L, st.l = L := ⟨_, rfl⟩
 have HLL := Lib.hid hLL
 rw [hLL] at hb hcl hRl hL ⊢
 obtain ⟨nl, hnl⟩ : ∃ n, L.length = n := ⟨_, rfl⟩
 obtain ⟨n, hn⟩ : ∃ n, l.length = n := ⟨_, rfl⟩
 have HNL := Lib.hid hnl; have HN := Lib.hid hn
 rw [hnl] at hb hcl hRl hL
 rw [hn] at hr hl ⊢
 obtain ⟨E, hE⟩ : ∃ E, errC8 L l = E := ⟨_, rfl⟩
 obtain ⟨O9, hO9⟩ : ∃ O, outC8 L l = O := ⟨_, rfl⟩
 have HEO := Lib.hid hE; have HOO := Lib.hid hO9
 rw [hE, hO9]
 have HR := Lib.hid hr; have HRL := Lib.hid hRl
 have q0 : w.cell? ⟨x, 0, none⟩ = some (.slice Al nl cl) := by rw [Lib.cell_of_heap hb]; rfl
 clear hLL hnl hn hE hO9 hr hRl hb
 go_enter Tryz.func8, Tryz.ntmps8
 go_wp2_with (at_builtin; refine wpList_append_any _ rfl _ _ 22 rfl w.heap.size 3 i0 z0 1 8 Tryz.underlying22 hinf hz0 hz1 hz2 hz3 (by decide) _ _ _ rfl (World.ownsRow_nil _ _ _ _) w.heap.size Al nl cl (ints L) rfl ?c1 ?c2 ?c3 ?c4 ?c5 ?_)
 case c1 => exact HRL.out
 case c2 => exact ints_one _
 case c3 => unfold maxLen; omega
 case c4 => omega
 case c5 => exact Nat.le_refl _
 intro v3 w3 ho3 hg3 hl3
 try rw [Nat.zero_add, List.nil_append] at ho3
 have hb3 : Below w.heap.size w w3 := (Below.refl _ _).grown hg3 (Nat.le_refl _) (fun q hq => by simp [Value.ownBlock] at hq)
 obtain ⟨A3, c3, rfl, hc3⟩ := own_form ho3
 clear hg3 hl3
 have HO3 := Lib.hid ho3; have HB3 := Lib.hid hb3
 clear ho3 hb3 q0
 go_wp2
 obtain ⟨x3, hx3⟩ : ∃ x3, w3.heap.size = x3 := ⟨_, rfl⟩
 obtain ⟨W, hW⟩ : ∃ W, w3.alloc (.cells #[.slice A3 nl c3] 34) = W := ⟨_, rfl⟩
 have HX3 : Hid (W.heap[x3]? = some (.cells #[.slice A3 nl c3] 34 (0, 0))) := by show _ = _; rw [← hW, ← hx3]; exact heap_alloc_new _ _
 have HBW : Hid (Below w.heap.size w W) := by show Below _ _ _; rw [← hW]; exact HB3.out.alloc HB3.out.size _
 have hxx : w.heap.size ≤ x3 := by rw [← hx3]; exact HB3.out.size
 have HI3 : Hid (InAt x3 (.slice A3 nl c3) L W) := by
  have h1 : Reads w3 w3.heap.size 1 A3 nl (ints L) := Reads.of_own HO3.out
  refine ⟨A3, c3, by rw [HNL.out], by rw [HNL.out]; exact hc3, ?_, fun hp ad e => ?_⟩
  ·rw [HNL.out, ← hW]
   exact (h1.alloc (Nat.le_refl _) _).more (by simp)
  ·obtain ⟨ad', e', hlt, _⟩ := h1.2 (by rw [HNL.out] at hp; exact hp)
   rw [e] at e'
   injection e' with e'
   subst e'
   omega
 rw [hW, hx3]
 clear hW hx3 HO3 HB3
 go_loopw [6] (fun nn wr => ∃ (k : Nat) (O : List Int) (v : Value), k ≤ n ∧ nn = .int .i64 k ∧ Hid (fold8 L (l.take k) = O) ∧ Hid (∀ z ∈ l.take k, dayB z = true) ∧ Hid (wr.heap[x3]? = some (.cells #[v] 34 (0, 0))) ∧ Hid (InAt x3 v O wr) ∧ Hid (Below w.heap.size w wr)) (fun nn _ => n - (intOf nn).toNat)
 case atStart => exact ⟨0, L, _, Nat.zero_le _, rfl, rfl, by intro z hz; simp at hz, HX3.out, HI3.out, HBW.out⟩
 case round =>
  clear HX3 HI3 HBW
  obtain ⟨k, O, v, hk, rfl, HF, HDY, HX, HI, HB⟩ := hrel
  obtain ⟨Ao, co, hv, hmc, hRo, _⟩ := HI.out
  subst hv
  obtain ⟨m, hm⟩ : ∃ m, O.length = m := ⟨_, rfl⟩
  have HM := Lib.hid hm
  have hml : m ≤ 100000 := by
   have h1 := fold8_len (l.take k) L
   rw [HF.out, hm, HNL.out, List.length_take] at h1
   omega
  have cx : wr.cell? ⟨x3, 0, none⟩ = some (.slice Ao m co) := by rw [Lib.cell_of_heap HX.out, hm]; rfl
  rw [hm] at hmc hRo
  have HXm : Hid (wr.heap[x3]? = some (.cells #[.slice Ao m co] 34 (0, 0))) := by show _ = _; rw [← hm]; exact HX.out
  have HRO := Lib.hid hRo
  have hx3l : x3 < wr.heap.size := Blk.lt (t := 34) HX.out
  have b1 : (0 : Int) ≤ (k : Int) := by omega
  clear hm hRo HX
  by_cases hlt : k < n
  ·obtain ⟨ad, z, rfl, hab, hzk, hcz0⟩ := int_at HR.out hlt
   have ce : wr.cell? (ad.add k) = some (.int .i64 z) := (HB.out.cell (by rw [block_of_add]; exact hab)).trans hcz0
   have HZK := Lib.hid hzk
   have b2 : (k : Int) < (n : Int) := by omega
   clear hzk hcz0
   go_wp2_with fail
   refine (day8_any z _).mono ?_
   rintro e w1 ⟨rfl, rfl⟩
   cases hd : dayB z
   ·have HE : Hid (E = 17 ∧ O9 = L) := by
     have h1 : errC8 L l = 17 := if_pos (List.any_eq_true.2 ⟨z, List.mem_of_getElem? HZK.out, by rw [hd]; rfl⟩)
     exact ⟨by rw [← HEO.out, h1], by rw [← HOO.out]; unfold outC8; rw [h1]; exact if_neg (by decide)⟩
    go_wp2
    go_ret
    refine ⟨by rw [HE.out.1]; rfl, ?_, mv_of_below HB.out⟩
    rw [HE.out.2, ← HLL.out]
    exact HK.out.below HB.out
   ·have HDY2 : Hid (∀ y ∈ l.take (k + 1), dayB y = true) := fun y hy => by
     rw [take_snoc HZK.out, List.mem_append, List.mem_singleton] at hy
     rcases hy with hy | rfl
     ·exact HDY.out y hy
     ·exact hd
    have hh := has8_any x3 O Ao m co wr.heap.size z wr HM.out cx HRO.out (by omega)
    obtain ⟨hv, hhv⟩ : ∃ b, hasI O z = b := ⟨_, rfl⟩
    rw [hhv] at hh
    have HHV := Lib.hid hhv
    clear hhv hd
    go_wp2_with fail
    refine hh.mono ?_
    rintro e w1 ⟨rfl, rfl⟩
    clear hh
    cases hv
    ·have HNI : Hid (z ∉ O) := of_decide_eq_false HHV.out
     obtain ⟨wo, hwo⟩ : ∃ wo : World, wo = wr := ⟨_, rfl⟩
     subst hwo
     go_upto_block 2 with (fail)
     go_cut [7] (fun kk wx => ∃ j : Nat, j ≤ m ∧ kk = .int .i64 j ∧ Hid (∀ i y, i < j → O[i]? = some y → y < z) ∧ Hid (∀ y, O[j]? = some y → z ≤ y) ∧ Hid (∃ q, wx = wo.drewN q))
     case first =>
      go_wp2
      go_loopw [7] (fun i w6 => ∃ j : Nat, j ≤ m ∧ i = .int .i64 j ∧ Hid (∀ i y, i < j → O[i]? = some y → y < z) ∧ Hid (∃ q, w6 = wo.drewN q)) (fun i _ => m - (intOf i).toNat)
      case atStart => exact ⟨0, Nat.zero_le _, rfl, fun i z h => absurd h (by omega), 0, rfl⟩
      case round =>
       obtain ⟨j, hj, rfl, HJ, HQ⟩ := hrel
       obtain ⟨q, hq⟩ := HQ.out
       have cx2 : wr.cell? ⟨x3, 0, none⟩ = some (.slice Ao m co) := by rw [hq]; exact cx
       have ce2 : wr.cell? (ad.add k) = some (.int .i64 z) := by rw [hq]; exact ce
       have HW := Lib.hid hq
       have HRR : Hid (Reads wr wr.heap.size 1 Ao m (ints O)) := by show Reads _ _ _ _ _ _; rw [HW.out]; exact HRO.out
       clear hq HQ cx ce
       have b3 : (0 : Int) ≤ (j : Int) := by omega
       by_cases hjm : j < m
       ·obtain ⟨ad', y, rfl, hab', hyk, hcy⟩ := int_at HRR.out hjm
        have HY := Lib.hid hyk
        have b4 : (j : Int) < (m : Int) := by omega
        clear hyk
        by_cases hyz : y < z
        ·have HL := Lib.hid hyz
         go_wp2
         go_quiet (fail)
         go_wp2
         go_roundw
         case rel =>
          refine ⟨j + 1, hjm, by go_num, fun i u hi hu => ?_, by rw [HW.out, World.drewN_drewN]; exact ⟨_, rfl⟩⟩
          rcases Nat.lt_or_ge i j with h1 | h1
          ·exact HJ.out i u h1 hu
          ·obtain rfl : i = j := by omega
           rw [HY.out] at hu
           injection hu with hu
           rw [← hu]
           exact HL.out
         case measure => simp [intOf]; omega
        ·have hyd : decide (y < z) = false := decide_eq_false hyz
         have HLT : Hid (∀ u, O[j]? = some u → z ≤ u) := fun u hu => by
          rw [HY.out] at hu
          injection hu with hu
          rw [← hu]
          exact Int.not_lt.1 hyz
         clear hyz
         go_wp2
         go_quiet (fail)
         go_wp2
         go_meet
         exact ⟨j, hj, rfl, HJ.out, HLT.out, by rw [HW.out, World.drewN_drewN]; exact ⟨_, rfl⟩⟩
       ·have hjm2 : j = m := by omega
        have hjd : decide (j < m) = false := decide_eq_false (by omega)
        have HLT : Hid (∀ u, O[j]? = some u → z ≤ u) := fun u hu => by
         have := (List.getElem?_eq_some_iff.1 hu).1
         have := HM.out
         omega
        clear hjm2
        go_wp2
        go_quiet (fail)
        go_wp2
        go_meet
        exact ⟨j, hj, rfl, HJ.out, HLT.out, by rw [HW.out, World.drewN_drewN]; exact ⟨_, rfl⟩⟩
     case rest =>
     obtain ⟨j, hj, rfl, HJ, HLT, HQ⟩ := hcut
     go_wp2
     obtain ⟨X, hXX⟩ : ∃ X, X = wc := ⟨_, rfl⟩
     subst hXX
     obtain ⟨q, hq⟩ := HQ.out
     have HXW : Hid (Below w.heap.size w X) := by show Below _ _ _; rw [hq]; exact drewN_below HB.out _
     have cX : X.cell? ⟨x3, 0, none⟩ = some (.slice Ao m co) := by rw [hq]; exact cx
     have h3X : X.heap[x3]? = some (.cells #[.slice Ao m co] 34 (0, 0)) := by rw [hq]; exact HXm.out
     have ceX : X.cell? (ad.add k) = some (.int .i64 z) := by rw [hq]; exact ce
     have hzq : X.heap.size = wo.heap.size := by rw [hq]; rfl
     have HRX : Hid (Reads X X.heap.size 1 Ao m (ints O)) := by show Reads _ _ _ _ _ _; rw [hq]; exact HRO.out
     have hxX : x3 < X.heap.size := by omega
     have hadX : ad.block < X.heap.size := by omega
     have hne3 : ad.block ≠ x3 := by omega
     clear hq HQ hzq
     have HP : Hid (Reads X X.heap.size 1 Ao j (ints (O.take j))) := reads_takeI HRX.out hj
     have hRd2 := HRX.out.cut hj hmc
     rw [Nat.mul_one, ← ints_drop] at hRd2
     have HD := Lib.hid hRd2
     have HIN : Hid (ins8 O z = O.take j ++ [z] ++ O.drop j) := ins8_at HNI.out (by rw [HM.out]; exact hj) HJ.out (fun u hu => Int.not_lt.2 (HLT.out u hu))
     have HIL : Hid ((ins8 O z).length = j + 1 + (m - j)) := by
      show _ = _
      rw [HIN.out]
      have := HM.out
      simp
      omega
     have hjc : j ≤ co := by omega
     have hXd : X.drew.heap.size = X.heap.size := rfl
     have hb0 : Below X.heap.size X X.drew := (Below.refl _ _).drew
     clear cx ce hRd2 HLT HJ
     refine wp_region_held_drew (S := fun X9 => X9.cell? (ad.add k) = some (.int .i64 z)) (by kernel_rfl) (show (X.drew).cell? _ = _ from ceX) (fun hHeld => ?_)
     refine tk (i := 0) (v := ?_) rfl (Or.inl ⟨by rfl, ?_⟩) ?_
     rotate_left
     ·intro X9 hSw; (try simp only [sD, sF]); first | (go_simp; done) | (go_simp; with_reducible rfl)
     try simp only [Act.put, sA, sB, sC, sD, sF]
     refine tk (i := 1) (v := ?_) rfl (Or.inl ⟨by rfl, ?_⟩) ?_
     rotate_left
     ·intro X9 hSw; (try simp only [sD, sE, sF]); first | (go_simp; done) | (go_simp; with_reducible rfl)
     try simp only [Act.put, sA, sB, sC, sD, sE, sF]
     refine tk (i := 2) (v := ?_) rfl (Or.inl ⟨by rfl, ?_⟩) ?_
     rotate_left
     ·intro X9 hSw; (try simp only [sD, sE, sF]); first | (go_simp; done) | (go_simp; with_reducible rfl)
     try simp only [Act.put, sA, sB, sC, sD, sE, sF]
     refine tk (i := 3) (v := ?_) rfl (Or.inl ⟨by rfl, ?_⟩) ?_
     rotate_left
     ·intro X9 hSw; (try simp only [sD, sE, sF]); first | (go_simp; done) | (go_simp; with_reducible rfl)
     try simp only [Act.put, sA, sB, sC, sD, sE, sF]
     refine tk (i := 5) (v := ?_) rfl (Or.inl ⟨by rfl, ?_⟩) ?_
     rotate_left
     ·intro X9 hSw; (try simp only [sD, sE, sF]); first | (go_simp; done) | (go_simp; with_reducible rfl)
     try simp only [Act.put, sA, sB, sC, sD, sE, sF]
     refine tk (i := 8) (v := ?_) rfl (Or.inl ⟨by rfl, ?_⟩) ?_
     rotate_left
     ·intro X9 hSw; (try simp only [sD, sE, sF]); first | (go_simp; done) | (go_simp; with_reducible rfl)
     try simp only [Act.put, sA, sB, sC, sD, sE, sF]
     refine tk (i := 9) (v := ?_) rfl (Or.inl ⟨by rfl, ?_⟩) ?_
     rotate_left
     ·intro X9 hSw; (try simp only [sD, sE, sF]); first | (go_simp; done) | (go_simp; with_reducible rfl)
     try simp only [Act.put, sA, sB, sC, sD, sE, sF]
     refine tk (i := 10) (v := ?_) rfl (Or.inl ⟨by rfl, ?_⟩) ?_
     rotate_left
     ·intro X9 hSw; (try simp only [sD, sE, sF]); first | (go_simp; done) | (go_simp; with_reducible rfl)
     try simp only [Act.put, sA, sB, sC, sD, sE, sF]
     refine tk (i := 11) (v := ?_) rfl (Or.inl ⟨by rfl, ?_⟩) ?_
     rotate_left
     ·intro X9 hSw; (try simp only [sD, sE, sF]); first | (go_simp; done) | (go_simp; with_reducible rfl)
     try simp only [Act.put, sA, sB, sC, sD, sE, sF]
     refine tk (i := 14) (v := ?_) rfl (Or.inl ⟨by rfl, ?_⟩) ?_
     rotate_left
     ·intro X9 hSw; (try simp only [sD, sE, sF]); first | (go_simp; done) | (go_simp; with_reducible rfl)
     try simp only [Act.put, sA, sB, sC, sD, sE, sF]
     refine tk (i := 15) (v := ?_) rfl (Or.inl ⟨by rfl, ?_⟩) ?_
     rotate_left
     ·intro X9 hSw; (try simp only [sD, sE, sF]); first | (go_simp; done) | (go_simp; with_reducible rfl)
     try simp only [Act.put, sA, sB, sC, sD, sE, sF]
     refine tk (i := 16) (v := ?_) rfl (Or.inl ⟨by rfl, ?_⟩) ?_
     rotate_left
     ·intro X9 hSw; (try simp only [sD, sE, sF]); first | (go_simp; done) | (go_simp; with_reducible rfl)
     try simp only [Act.put, sA, sB, sC, sD, sE, sF]
     refine tk (i := 18) (v := ?_) rfl (Or.inl ⟨by rfl, ?_⟩) ?_
     rotate_left
     ·intro X9 hSw; (try simp only [sD, sE, sF]); first | (go_simp; done) | (go_simp; with_reducible rfl)
     try simp only [Act.put, sA, sB, sC, sD, sE, sF]
     refine wpAnyH_ready (rs := [4, 12, 17]) (by kernel_rfl) (by simp) (AllReadyH.cons rfl (fun K hK => ?_) (AllReadyH.cons rfl (fun K hK => ?_) (AllReadyH.cons rfl (fun K hK => ?_) (AllReadyH.nil))))
     ·have cl1 := (hb0.cell (p := ⟨x3, 0, none⟩) (show x3 < X.heap.size from hxX)).trans cX
      try simp only [sD, sE, sF]
      go_simp
      refine hK.out _ _ ((hb0.cell (by rw [block_of_add]; exact hadX)).trans ceX) (fun hHeld => ?_)
      clear hK K
      try simp only [Act.put, sA, sB, sC, sD, sE, sF]
      refine tk (i := 6) (v := ?_) rfl (Or.inl ⟨by rfl, ?_⟩) ?_
      rotate_left
      ·intro X9 hSw; (try simp only [sD, sE, sF]); first | (go_simp; done) | (go_simp; with_reducible rfl)
      try simp only [Act.put, sA, sB, sC, sD, sE, sF]
      refine wpAnyH_ready (rs := [7, 12, 17]) (by kernel_rfl) (by simp) (AllReadyH.cons rfl (fun K hK => ?_) (AllReadyH.cons rfl (fun K hK => ?_) (AllReadyH.cons rfl (fun K hK => ?_) (AllReadyH.nil))))
      ·refine step_append_any (X.drew) rfl (.const (.slice none 0 0)) (.tmp 62) 22 rfl X.heap.size 3 i0 z0 1 8 Tryz.underlying22 hinf hz0 hz1 hz2 hz3 (by decide) (.slice none 0 0) 0 [] (by rfl) (World.ownsRow_nil _ _ _ _) X.heap.size Ao j _ (ints (O.take j)) (by rfl) (HP.out.below hb0) (ints_one _) (by unfold maxLen; omega) (by omega) hb0.size ?_
       intro v2 w2 ho2 hg2 hl2
       rw [Nat.zero_add, List.nil_append] at ho2
       have hb2 := hb0.grown hg2 hb0.size (fun q hq => by simp [Value.ownBlock] at hq)
       have hsz2 := hb2.size
       clear hg2 hl2
       refine hK.out _ _ ((hb2.cell (by rw [block_of_add]; exact hadX)).trans ceX) (fun hHeld => ?_)
       clear hK K
       try simp only [Act.put, sA, sB, sC, sD, sE, sF]
       refine wpAnyH_ready (rs := [12, 17]) (by kernel_rfl) (by simp) (AllReadyH.cons rfl (fun K hK => ?_) (AllReadyH.cons rfl (fun K hK => ?_) (AllReadyH.nil)))
       ·have hb3 := hb2.alloc hb2.size (.cells #[.int .i64 z] 3)
        try simp only [sD, sE, sF]
        go_simp
        refine hK.out _ _ ((hb3.cell (by rw [block_of_add]; exact hadX)).trans ceX) (fun hHeld => ?_)
        clear hK K
        try simp only [Act.put, sA, sB, sC, sD, sE, sF]
        have hsz3 := hb3.size
        have hn3 : Reads (w2.alloc (.cells #[.int .i64 z] 3)) (w2.heap.size + 1) 1 (some ⟨w2.heap.size, 0, none⟩) 1 [.int .i64 z] := reads_newN w2 [.int .i64 z] 3 #[.int .i64 z] rfl (N := 1) rfl
        have ho3 := ho2.alloc (.cells #[.int .i64 z] 3)
        refine wpAnyH_ready (rs := [13, 17]) (by kernel_rfl) (by simp) (AllReadyH.cons rfl (fun K hK => ?_) (AllReadyH.cons rfl (fun K hK => ?_) (AllReadyH.nil)))
        ·refine step_append_any ((w2.alloc (.cells #[.int .i64 z] 3))) rfl (.tmp 63) (.tmp 68) 22 rfl X.heap.size 3 i0 z0 1 8 Tryz.underlying22 hinf hz0 hz1 hz2 hz3 (by decide) v2 j (ints (O.take j)) (by rfl) ho3 (w2.heap.size + 1) (some ⟨w2.heap.size, 0, none⟩) 1 1 [.int .i64 z] (by rfl) hn3 (ints_one [z]) (by unfold maxLen; omega) (by omega) hb3.size ?_
         intro v4 w4 ho4 hg4 hl4
         have hb4 := hb3.grown hg4 hb3.size (fun q hq => (ho3.lt q hq).1)
         have hsz4 := hb4.size
         clear hg4 hl4
         refine hK.out _ _ ((hb4.cell (by rw [block_of_add]; exact hadX)).trans ceX) (fun hHeld => ?_)
         clear hK K
         try simp only [Act.put, sA, sB, sC, sD, sE, sF]
         refine wpAnyH_ready (rs := [17]) (by kernel_rfl) (by simp) (AllReadyH.cons rfl (fun K hK => ?_) (AllReadyH.nil))
         have cl5 := (hb4.cell (p := ⟨x3, 0, none⟩) (show x3 < X.heap.size from hxX)).trans cX
         try simp only [sD, sE, sF]
         go_simp
         refine hK.out _ _ ((hb4.cell (by rw [block_of_add]; exact hadX)).trans ceX) (fun hHeld => ?_)
         clear hK K
         try simp only [Act.put, sA, sB, sC, sD, sE, sF]
         refine tk (i := 19) (v := ?_) rfl (Or.inl ⟨by rfl, ?_⟩) ?_
         rotate_left
         ·intro X9 hSw; (try simp only [sD, sE, sF]); first | (go_simp; done) | (go_simp; with_reducible rfl)
         try simp only [Act.put, sA, sB, sC, sD, sE, sF]
         refine wpAnyH_ready (rs := [20]) (by kernel_rfl) (by simp) (AllReadyH.cons rfl (fun K hK => ?_) (AllReadyH.nil))
         refine step_append_any (w4) rfl (.tmp 69) (.tmp 75) 22 rfl X.heap.size 3 i0 z0 1 8 Tryz.underlying22 hinf hz0 hz1 hz2 hz3 (by decide) v4 (j + 1) (ints (O.take j) ++ [.int .i64 z]) (by rfl) ho4 X.heap.size _ (m - j) _ (ints (O.drop j)) (by rfl) (HD.out.below hb4) (ints_one _) (by unfold maxLen; omega) (by omega) hb4.size ?_
         intro v6 w6 ho6 hg6 hl6
         have hb6 := hb4.grown hg6 hb4.size (fun q hq => (ho4.lt q hq).1)
         have hsz6 := hb6.size
         obtain ⟨A9, c9, rfl, hc9⟩ := own_form ho6
         clear hg6 hl6
         refine hK.out _ _ ((hb6.cell (by rw [block_of_add]; exact hadX)).trans ceX) (fun hHeld => ?_)
         clear hK K
         try simp only [Act.put, sA, sB, sC, sD, sE, sF]
         refine tk (i := 21) (v := ?_) rfl (Or.inl ⟨by rfl, ?_⟩) ?_
         rotate_left
         ·intro X9 hSw; (try simp only [sD, sE, sF]); first | (go_simp; done) | (go_simp; with_reducible rfl)
         try simp only [Act.put, sA, sB, sC, sD, sE, sF]
         refine tk (i := 22) (v := ?_) rfl (Or.inl ⟨by rfl, ?_⟩) ?_
         rotate_left
         ·intro X9 hSw; (try simp only [sD, sE, sF]); first | (go_simp; done) | (go_simp; with_reducible rfl)
         try simp only [Act.put, sA, sB, sC, sD, sE, sF]
         refine wpAnyH_ready (rs := [23]) (by kernel_rfl) (by simp) (AllReadyH.cons rfl (fun K hK => ?_) (AllReadyH.nil))
         have g9 := (hb6.block x3 hxX).trans h3X
         have cl7 := (hb6.cell (p := ⟨x3, 0, none⟩) (show x3 < X.heap.size from hxX)).trans cX
         have fl7 : w6.frozen? ⟨x3, 0, none⟩ = false := Lib.frozen_of_heap g9 0
         try simp only [sD, sE, sF]
         go_simp
         refine hK.out _ _ ((World.cell?_setCell_other _ _ _ _ (by intro e; have := congrArg Addr.block e; rw [block_of_add] at this; first | exact hne3 this | exact hne3 this.symm)).trans ((hb6.cell (by rw [block_of_add]; exact hadX)).trans ceX)) (fun hHeld => ?_)
         clear hK K
         try simp only [Act.put, sA, sB, sC, sD, sE, sF]
         refine wpAnyH_done (by kernel_rfl) ?_ _
         have HROW9 : w6.ownsRow X.heap.size 3 1 (.slice A9 (j + 1 + (m - j)) c9) (j + 1 + (m - j)) (ints (ins8 O z)) := by
          have e : ints (ins8 O z) = ints (O.take j) ++ [.int .i64 z] ++ ints (O.drop j) := by rw [HIN.out]; simp [ints]
          rw [e]
          exact ho6
         have HM9 := Lib.hid (mv_set x3 0 (.slice A9 (j + 1 + (m - j)) c9) w6)
         have HI9 : Hid (InAt x3 (.slice A9 (j + 1 + (m - j)) c9) (ins8 O z) (w6.setCell ⟨x3, 0, none⟩ (.slice A9 (j + 1 + (m - j)) c9))) := (in_of_own HROW9 HIL.out hxX).mvx HM9.out
         have HG9 : Hid ((w6.setCell ⟨x3, 0, none⟩ (.slice A9 (j + 1 + (m - j)) c9)).heap[x3]? = some (.cells #[(.slice A9 (j + 1 + (m - j)) c9)] 34 (0, 0))) := Blk.set_ (show Blk _ x3 34 _ from (hb6.block x3 hxX).trans h3X) 0 _
         have HB9 : Hid (Below w.heap.size w (w6.setCell ⟨x3, 0, none⟩ (.slice A9 (j + 1 + (m - j)) c9))) := (HXW.out.trans (hb6.mono HXW.out.size)).trans (HM9.out.below (fun q hq => by simp at hq; omega) (by have := HXW.out.size; have := hb6.size; omega))
         have HF9 : Hid (fold8 L (l.take (k + 1)) = ins8 O z) := by show _ = _; rw [fold8_step HZK.out, HF.out]
         clear HROW9 ho6 cX h3X ceX
         go_wp2
         all_goals
          go_roundw
          case rel => exact ⟨k + 1, ins8 O z, _, hlt, by go_num, HF9.out, HDY2.out, HG9.out, HI9.out, HB9.out⟩
          case measure => simp [intOf]; omega
        ·have cl4 := (hb3.cell (p := ⟨x3, 0, none⟩) (show x3 < X.heap.size from hxX)).trans cX
         try simp only [sD, sE, sF]
         go_simp
         refine hK.out _ _ ((hb3.cell (by rw [block_of_add]; exact hadX)).trans ceX) (fun hHeld => ?_)
         clear hK K
         try simp only [Act.put, sA, sB, sC, sD, sE, sF]
         refine tk (i := 19) (v := ?_) rfl (Or.inl ⟨by rfl, ?_⟩) ?_
         rotate_left
         ·intro X9 hSw; (try simp only [sD, sE, sF]); first | (go_simp; done) | (go_simp; with_reducible rfl)
         try simp only [Act.put, sA, sB, sC, sD, sE, sF]
         refine wpAnyH_ready (rs := [13]) (by kernel_rfl) (by simp) (AllReadyH.cons rfl (fun K hK => ?_) (AllReadyH.nil))
         refine step_append_any ((w2.alloc (.cells #[.int .i64 z] 3))) rfl (.tmp 63) (.tmp 68) 22 rfl X.heap.size 3 i0 z0 1 8 Tryz.underlying22 hinf hz0 hz1 hz2 hz3 (by decide) v2 j (ints (O.take j)) (by rfl) ho3 (w2.heap.size + 1) (some ⟨w2.heap.size, 0, none⟩) 1 1 [.int .i64 z] (by rfl) hn3 (ints_one [z]) (by unfold maxLen; omega) (by omega) hb3.size ?_
         intro v5 w5 ho5 hg5 hl5
         have hb5 := hb3.grown hg5 hb3.size (fun q hq => (ho3.lt q hq).1)
         have hsz5 := hb5.size
         clear hg5 hl5
         refine hK.out _ _ ((hb5.cell (by rw [block_of_add]; exact hadX)).trans ceX) (fun hHeld => ?_)
         clear hK K
         try simp only [Act.put, sA, sB, sC, sD, sE, sF]
         refine wpAnyH_ready (rs := [20]) (by kernel_rfl) (by simp) (AllReadyH.cons rfl (fun K hK => ?_) (AllReadyH.nil))
         refine step_append_any (w5) rfl (.tmp 69) (.tmp 75) 22 rfl X.heap.size 3 i0 z0 1 8 Tryz.underlying22 hinf hz0 hz1 hz2 hz3 (by decide) v5 (j + 1) (ints (O.take j) ++ [.int .i64 z]) (by rfl) ho5 X.heap.size _ (m - j) _ (ints (O.drop j)) (by rfl) (HD.out.below hb5) (ints_one _) (by unfold maxLen; omega) (by omega) hb5.size ?_
         intro v6 w6 ho6 hg6 hl6
         have hb6 := hb5.grown hg6 hb5.size (fun q hq => (ho5.lt q hq).1)
         have hsz6 := hb6.size
         obtain ⟨A9, c9, rfl, hc9⟩ := own_form ho6
         clear hg6 hl6
         refine hK.out _ _ ((hb6.cell (by rw [block_of_add]; exact hadX)).trans ceX) (fun hHeld => ?_)
         clear hK K
         try simp only [Act.put, sA, sB, sC, sD, sE, sF]
         refine tk (i := 21) (v := ?_) rfl (Or.inl ⟨by rfl, ?_⟩) ?_
         rotate_left
         ·intro X9 hSw; (try simp only [sD, sE, sF]); first | (go_simp; done) | (go_simp; with_reducible rfl)
         try simp only [Act.put, sA, sB, sC, sD, sE, sF]
         refine tk (i := 22) (v := ?_) rfl (Or.inl ⟨by rfl, ?_⟩) ?_
         rotate_left
         ·intro X9 hSw; (try simp only [sD, sE, sF]); first | (go_simp; done) | (go_simp; with_reducible rfl)
         try simp only [Act.put, sA, sB, sC, sD, sE, sF]
         refine wpAnyH_ready (rs := [23]) (by kernel_rfl) (by simp) (AllReadyH.cons rfl (fun K hK => ?_) (AllReadyH.nil))
         have g9 := (hb6.block x3 hxX).trans h3X
         have cl7 := (hb6.cell (p := ⟨x3, 0, none⟩) (show x3 < X.heap.size from hxX)).trans cX
         have fl7 : w6.frozen? ⟨x3, 0, none⟩ = false := Lib.frozen_of_heap g9 0
         try simp only [sD, sE, sF]
         go_simp
         refine hK.out _ _ ((World.cell?_setCell_other _ _ _ _ (by intro e; have := congrArg Addr.block e; rw [block_of_add] at this; first | exact hne3 this | exact hne3 this.symm)).trans ((hb6.cell (by rw [block_of_add]; exact hadX)).trans ceX)) (fun hHeld => ?_)
         clear hK K
         try simp only [Act.put, sA, sB, sC, sD, sE, sF]
         refine wpAnyH_done (by kernel_rfl) ?_ _
         have HROW9 : w6.ownsRow X.heap.size 3 1 (.slice A9 (j + 1 + (m - j)) c9) (j + 1 + (m - j)) (ints (ins8 O z)) := by
          have e : ints (ins8 O z) = ints (O.take j) ++ [.int .i64 z] ++ ints (O.drop j) := by rw [HIN.out]; simp [ints]
          rw [e]
          exact ho6
         have HM9 := Lib.hid (mv_set x3 0 (.slice A9 (j + 1 + (m - j)) c9) w6)
         have HI9 : Hid (InAt x3 (.slice A9 (j + 1 + (m - j)) c9) (ins8 O z) (w6.setCell ⟨x3, 0, none⟩ (.slice A9 (j + 1 + (m - j)) c9))) := (in_of_own HROW9 HIL.out hxX).mvx HM9.out
         have HG9 : Hid ((w6.setCell ⟨x3, 0, none⟩ (.slice A9 (j + 1 + (m - j)) c9)).heap[x3]? = some (.cells #[(.slice A9 (j + 1 + (m - j)) c9)] 34 (0, 0))) := Blk.set_ (show Blk _ x3 34 _ from (hb6.block x3 hxX).trans h3X) 0 _
         have HB9 : Hid (Below w.heap.size w (w6.setCell ⟨x3, 0, none⟩ (.slice A9 (j + 1 + (m - j)) c9))) := (HXW.out.trans (hb6.mono HXW.out.size)).trans (HM9.out.below (fun q hq => by simp at hq; omega) (by have := HXW.out.size; have := hb6.size; omega))
         have HF9 : Hid (fold8 L (l.take (k + 1)) = ins8 O z) := by show _ = _; rw [fold8_step HZK.out, HF.out]
         clear HROW9 ho6 cX h3X ceX
         go_wp2
         all_goals
          go_roundw
          case rel => exact ⟨k + 1, ins8 O z, _, hlt, by go_num, HF9.out, HDY2.out, HG9.out, HI9.out, HB9.out⟩
          case measure => simp [intOf]; omega
       ·have cl3 := (hb2.cell (p := ⟨x3, 0, none⟩) (show x3 < X.heap.size from hxX)).trans cX
        try simp only [sD, sE, sF]
        go_simp
        refine hK.out _ _ ((hb2.cell (by rw [block_of_add]; exact hadX)).trans ceX) (fun hHeld => ?_)
        clear hK K
        try simp only [Act.put, sA, sB, sC, sD, sE, sF]
        refine tk (i := 19) (v := ?_) rfl (Or.inl ⟨by rfl, ?_⟩) ?_
        rotate_left
        ·intro X9 hSw; (try simp only [sD, sE, sF]); first | (go_simp; done) | (go_simp; with_reducible rfl)
        try simp only [Act.put, sA, sB, sC, sD, sE, sF]
        refine wpAnyH_ready (rs := [12]) (by kernel_rfl) (by simp) (AllReadyH.cons rfl (fun K hK => ?_) (AllReadyH.nil))
        have hb4 := hb2.alloc hb2.size (.cells #[.int .i64 z] 3)
        try simp only [sD, sE, sF]
        go_simp
        refine hK.out _ _ ((hb4.cell (by rw [block_of_add]; exact hadX)).trans ceX) (fun hHeld => ?_)
        clear hK K
        try simp only [Act.put, sA, sB, sC, sD, sE, sF]
        have hsz4 := hb4.size
        have hn4 : Reads (w2.alloc (.cells #[.int .i64 z] 3)) (w2.heap.size + 1) 1 (some ⟨w2.heap.size, 0, none⟩) 1 [.int .i64 z] := reads_newN w2 [.int .i64 z] 3 #[.int .i64 z] rfl (N := 1) rfl
        have ho4 := ho2.alloc (.cells #[.int .i64 z] 3)
        refine wpAnyH_ready (rs := [13]) (by kernel_rfl) (by simp) (AllReadyH.cons rfl (fun K hK => ?_) (AllReadyH.nil))
        refine step_append_any ((w2.alloc (.cells #[.int .i64 z] 3))) rfl (.tmp 63) (.tmp 68) 22 rfl X.heap.size 3 i0 z0 1 8 Tryz.underlying22 hinf hz0 hz1 hz2 hz3 (by decide) v2 j (ints (O.take j)) (by rfl) ho4 (w2.heap.size + 1) (some ⟨w2.heap.size, 0, none⟩) 1 1 [.int .i64 z] (by rfl) hn4 (ints_one [z]) (by unfold maxLen; omega) (by omega) hb4.size ?_
        intro v5 w5 ho5 hg5 hl5
        have hb5 := hb4.grown hg5 hb4.size (fun q hq => (ho4.lt q hq).1)
        have hsz5 := hb5.size
        clear hg5 hl5
        refine hK.out _ _ ((hb5.cell (by rw [block_of_add]; exact hadX)).trans ceX) (fun hHeld => ?_)
        clear hK K
        try simp only [Act.put, sA, sB, sC, sD, sE, sF]
        refine wpAnyH_ready (rs := [20]) (by kernel_rfl) (by simp) (AllReadyH.cons rfl (fun K hK => ?_) (AllReadyH.nil))
        refine step_append_any (w5) rfl (.tmp 69) (.tmp 75) 22 rfl X.heap.size 3 i0 z0 1 8 Tryz.underlying22 hinf hz0 hz1 hz2 hz3 (by decide) v5 (j + 1) (ints (O.take j) ++ [.int .i64 z]) (by rfl) ho5 X.heap.size _ (m - j) _ (ints (O.drop j)) (by rfl) (HD.out.below hb5) (ints_one _) (by unfold maxLen; omega) (by omega) hb5.size ?_
        intro v6 w6 ho6 hg6 hl6
        have hb6 := hb5.grown hg6 hb5.size (fun q hq => (ho5.lt q hq).1)
        have hsz6 := hb6.size
        obtain ⟨A9, c9, rfl, hc9⟩ := own_form ho6
        clear hg6 hl6
        refine hK.out _ _ ((hb6.cell (by rw [block_of_add]; exact hadX)).trans ceX) (fun hHeld => ?_)
        clear hK K
        try simp only [Act.put, sA, sB, sC, sD, sE, sF]
        refine tk (i := 21) (v := ?_) rfl (Or.inl ⟨by rfl, ?_⟩) ?_
        rotate_left
        ·intro X9 hSw; (try simp only [sD, sE, sF]); first | (go_simp; done) | (go_simp; with_reducible rfl)
        try simp only [Act.put, sA, sB, sC, sD, sE, sF]
        refine tk (i := 22) (v := ?_) rfl (Or.inl ⟨by rfl, ?_⟩) ?_
        rotate_left
        ·intro X9 hSw; (try simp only [sD, sE, sF]); first | (go_simp; done) | (go_simp; with_reducible rfl)
        try simp only [Act.put, sA, sB, sC, sD, sE, sF]
        refine wpAnyH_ready (rs := [23]) (by kernel_rfl) (by simp) (AllReadyH.cons rfl (fun K hK => ?_) (AllReadyH.nil))
        have g9 := (hb6.block x3 hxX).trans h3X
        have cl7 := (hb6.cell (p := ⟨x3, 0, none⟩) (show x3 < X.heap.size from hxX)).trans cX
        have fl7 : w6.frozen? ⟨x3, 0, none⟩ = false := Lib.frozen_of_heap g9 0
        try simp only [sD, sE, sF]
        go_simp
        refine hK.out _ _ ((World.cell?_setCell_other _ _ _ _ (by intro e; have := congrArg Addr.block e; rw [block_of_add] at this; first | exact hne3 this | exact hne3 this.symm)).trans ((hb6.cell (by rw [block_of_add]; exact hadX)).trans ceX)) (fun hHeld => ?_)
        clear hK K
        try simp only [Act.put, sA, sB, sC, sD, sE, sF]
        refine wpAnyH_done (by kernel_rfl) ?_ _
        have HROW9 : w6.ownsRow X.heap.size 3 1 (.slice A9 (j + 1 + (m - j)) c9) (j + 1 + (m - j)) (ints (ins8 O z)) := by
         have e : ints (ins8 O z) = ints (O.take j) ++ [.int .i64 z] ++ ints (O.drop j) := by rw [HIN.out]; simp [ints]
         rw [e]
         exact ho6
        have HM9 := Lib.hid (mv_set x3 0 (.slice A9 (j + 1 + (m - j)) c9) w6)
        have HI9 : Hid (InAt x3 (.slice A9 (j + 1 + (m - j)) c9) (ins8 O z) (w6.setCell ⟨x3, 0, none⟩ (.slice A9 (j + 1 + (m - j)) c9))) := (in_of_own HROW9 HIL.out hxX).mvx HM9.out
        have HG9 : Hid ((w6.setCell ⟨x3, 0, none⟩ (.slice A9 (j + 1 + (m - j)) c9)).heap[x3]? = some (.cells #[(.slice A9 (j + 1 + (m - j)) c9)] 34 (0, 0))) := Blk.set_ (show Blk _ x3 34 _ from (hb6.block x3 hxX).trans h3X) 0 _
        have HB9 : Hid (Below w.heap.size w (w6.setCell ⟨x3, 0, none⟩ (.slice A9 (j + 1 + (m - j)) c9))) := (HXW.out.trans (hb6.mono HXW.out.size)).trans (HM9.out.below (fun q hq => by simp at hq; omega) (by have := HXW.out.size; have := hb6.size; omega))
        have HF9 : Hid (fold8 L (l.take (k + 1)) = ins8 O z) := by show _ = _; rw [fold8_step HZK.out, HF.out]
        clear HROW9 ho6 cX h3X ceX
        go_wp2
        all_goals
         go_roundw
         case rel => exact ⟨k + 1, ins8 O z, _, hlt, by go_num, HF9.out, HDY2.out, HG9.out, HI9.out, HB9.out⟩
         case measure => simp [intOf]; omega
      ·have hb2 := hb0.alloc hb0.size (.cells #[.int .i64 z] 3)
       try simp only [sD, sE, sF]
       go_simp
       refine hK.out _ _ ((hb2.cell (by rw [block_of_add]; exact hadX)).trans ceX) (fun hHeld => ?_)
       clear hK K
       try simp only [Act.put, sA, sB, sC, sD, sE, sF]
       have hsz2 := hb2.size
       have hn2 : Reads (X.drew.alloc (.cells #[.int .i64 z] 3)) (X.heap.size + 1) 1 (some ⟨X.heap.size, 0, none⟩) 1 [.int .i64 z] := reads_newN X.drew [.int .i64 z] 3 #[.int .i64 z] rfl (N := 1) rfl
       refine wpAnyH_ready (rs := [7, 17]) (by kernel_rfl) (by simp) (AllReadyH.cons rfl (fun K hK => ?_) (AllReadyH.cons rfl (fun K hK => ?_) (AllReadyH.nil)))
       ·refine step_append_any ((X.drew.alloc (.cells #[.int .i64 z] 3))) rfl (.const (.slice none 0 0)) (.tmp 62) 22 rfl X.heap.size 3 i0 z0 1 8 Tryz.underlying22 hinf hz0 hz1 hz2 hz3 (by decide) (.slice none 0 0) 0 [] (by rfl) (World.ownsRow_nil _ _ _ _) X.heap.size Ao j _ (ints (O.take j)) (by rfl) (HP.out.below hb2) (ints_one _) (by unfold maxLen; omega) (by omega) hb2.size ?_
        intro v3 w3 ho3 hg3 hl3
        rw [Nat.zero_add, List.nil_append] at ho3
        have hb3 := hb2.grown hg3 hb2.size (fun q hq => by simp [Value.ownBlock] at hq)
        have hsz3 := hb3.size
        have hn3 := hn2.grown hg3 (by simp) (by simp [Value.ownBlock])
        clear hg3 hl3
        refine hK.out _ _ ((hb3.cell (by rw [block_of_add]; exact hadX)).trans ceX) (fun hHeld => ?_)
        clear hK K
        try simp only [Act.put, sA, sB, sC, sD, sE, sF]
        refine wpAnyH_ready (rs := [13, 17]) (by kernel_rfl) (by simp) (AllReadyH.cons rfl (fun K hK => ?_) (AllReadyH.cons rfl (fun K hK => ?_) (AllReadyH.nil)))
        ·refine step_append_any (w3) rfl (.tmp 63) (.tmp 68) 22 rfl X.heap.size 3 i0 z0 1 8 Tryz.underlying22 hinf hz0 hz1 hz2 hz3 (by decide) v3 j (ints (O.take j)) (by rfl) ho3 (X.heap.size + 1) (some ⟨X.heap.size, 0, none⟩) 1 1 [.int .i64 z] (by rfl) hn3 (ints_one [z]) (by unfold maxLen; omega) (by omega) hb3.size ?_
         intro v4 w4 ho4 hg4 hl4
         have hb4 := hb3.grown hg4 hb3.size (fun q hq => (ho3.lt q hq).1)
         have hsz4 := hb4.size
         clear hg4 hl4
         refine hK.out _ _ ((hb4.cell (by rw [block_of_add]; exact hadX)).trans ceX) (fun hHeld => ?_)
         clear hK K
         try simp only [Act.put, sA, sB, sC, sD, sE, sF]
         refine wpAnyH_ready (rs := [17]) (by kernel_rfl) (by simp) (AllReadyH.cons rfl (fun K hK => ?_) (AllReadyH.nil))
         have cl5 := (hb4.cell (p := ⟨x3, 0, none⟩) (show x3 < X.heap.size from hxX)).trans cX
         try simp only [sD, sE, sF]
         go_simp
         refine hK.out _ _ ((hb4.cell (by rw [block_of_add]; exact hadX)).trans ceX) (fun hHeld => ?_)
         clear hK K
         try simp only [Act.put, sA, sB, sC, sD, sE, sF]
         refine tk (i := 19) (v := ?_) rfl (Or.inl ⟨by rfl, ?_⟩) ?_
         rotate_left
         ·intro X9 hSw; (try simp only [sD, sE, sF]); first | (go_simp; done) | (go_simp; with_reducible rfl)
         try simp only [Act.put, sA, sB, sC, sD, sE, sF]
         refine wpAnyH_ready (rs := [20]) (by kernel_rfl) (by simp) (AllReadyH.cons rfl (fun K hK => ?_) (AllReadyH.nil))
         refine step_append_any (w4) rfl (.tmp 69) (.tmp 75) 22 rfl X.heap.size 3 i0 z0 1 8 Tryz.underlying22 hinf hz0 hz1 hz2 hz3 (by decide) v4 (j + 1) (ints (O.take j) ++ [.int .i64 z]) (by rfl) ho4 X.heap.size _ (m - j) _ (ints (O.drop j)) (by rfl) (HD.out.below hb4) (ints_one _) (by unfold maxLen; omega) (by omega) hb4.size ?_
         intro v6 w6 ho6 hg6 hl6
         have hb6 := hb4.grown hg6 hb4.size (fun q hq => (ho4.lt q hq).1)
         have hsz6 := hb6.size
         obtain ⟨A9, c9, rfl, hc9⟩ := own_form ho6
         clear hg6 hl6
         refine hK.out _ _ ((hb6.cell (by rw [block_of_add]; exact hadX)).trans ceX) (fun hHeld => ?_)
         clear hK K
         try simp only [Act.put, sA, sB, sC, sD, sE, sF]
         refine tk (i := 21) (v := ?_) rfl (Or.inl ⟨by rfl, ?_⟩) ?_
         rotate_left
         ·intro X9 hSw; (try simp only [sD, sE, sF]); first | (go_simp; done) | (go_simp; with_reducible rfl)
         try simp only [Act.put, sA, sB, sC, sD, sE, sF]
         refine tk (i := 22) (v := ?_) rfl (Or.inl ⟨by rfl, ?_⟩) ?_
         rotate_left
         ·intro X9 hSw; (try simp only [sD, sE, sF]); first | (go_simp; done) | (go_simp; with_reducible rfl)
         try simp only [Act.put, sA, sB, sC, sD, sE, sF]
         refine wpAnyH_ready (rs := [23]) (by kernel_rfl) (by simp) (AllReadyH.cons rfl (fun K hK => ?_) (AllReadyH.nil))
         have g9 := (hb6.block x3 hxX).trans h3X
         have cl7 := (hb6.cell (p := ⟨x3, 0, none⟩) (show x3 < X.heap.size from hxX)).trans cX
         have fl7 : w6.frozen? ⟨x3, 0, none⟩ = false := Lib.frozen_of_heap g9 0
         try simp only [sD, sE, sF]
         go_simp
         refine hK.out _ _ ((World.cell?_setCell_other _ _ _ _ (by intro e; have := congrArg Addr.block e; rw [block_of_add] at this; first | exact hne3 this | exact hne3 this.symm)).trans ((hb6.cell (by rw [block_of_add]; exact hadX)).trans ceX)) (fun hHeld => ?_)
         clear hK K
         try simp only [Act.put, sA, sB, sC, sD, sE, sF]
         refine wpAnyH_done (by kernel_rfl) ?_ _
         have HROW9 : w6.ownsRow X.heap.size 3 1 (.slice A9 (j + 1 + (m - j)) c9) (j + 1 + (m - j)) (ints (ins8 O z)) := by
          have e : ints (ins8 O z) = ints (O.take j) ++ [.int .i64 z] ++ ints (O.drop j) := by rw [HIN.out]; simp [ints]
          rw [e]
          exact ho6
         have HM9 := Lib.hid (mv_set x3 0 (.slice A9 (j + 1 + (m - j)) c9) w6)
         have HI9 : Hid (InAt x3 (.slice A9 (j + 1 + (m - j)) c9) (ins8 O z) (w6.setCell ⟨x3, 0, none⟩ (.slice A9 (j + 1 + (m - j)) c9))) := (in_of_own HROW9 HIL.out hxX).mvx HM9.out
         have HG9 : Hid ((w6.setCell ⟨x3, 0, none⟩ (.slice A9 (j + 1 + (m - j)) c9)).heap[x3]? = some (.cells #[(.slice A9 (j + 1 + (m - j)) c9)] 34 (0, 0))) := Blk.set_ (show Blk _ x3 34 _ from (hb6.block x3 hxX).trans h3X) 0 _
         have HB9 : Hid (Below w.heap.size w (w6.setCell ⟨x3, 0, none⟩ (.slice A9 (j + 1 + (m - j)) c9))) := (HXW.out.trans (hb6.mono HXW.out.size)).trans (HM9.out.below (fun q hq => by simp at hq; omega) (by have := HXW.out.size; have := hb6.size; omega))
         have HF9 : Hid (fold8 L (l.take (k + 1)) = ins8 O z) := by show _ = _; rw [fold8_step HZK.out, HF.out]
         clear HROW9 ho6 cX h3X ceX
         go_wp2
         all_goals
          go_roundw
          case rel => exact ⟨k + 1, ins8 O z, _, hlt, by go_num, HF9.out, HDY2.out, HG9.out, HI9.out, HB9.out⟩
          case measure => simp [intOf]; omega
        ·have cl4 := (hb3.cell (p := ⟨x3, 0, none⟩) (show x3 < X.heap.size from hxX)).trans cX
         try simp only [sD, sE, sF]
         go_simp
         refine hK.out _ _ ((hb3.cell (by rw [block_of_add]; exact hadX)).trans ceX) (fun hHeld => ?_)
         clear hK K
         try simp only [Act.put, sA, sB, sC, sD, sE, sF]
         refine tk (i := 19) (v := ?_) rfl (Or.inl ⟨by rfl, ?_⟩) ?_
         rotate_left
         ·intro X9 hSw; (try simp only [sD, sE, sF]); first | (go_simp; done) | (go_simp; with_reducible rfl)
         try simp only [Act.put, sA, sB, sC, sD, sE, sF]
         refine wpAnyH_ready (rs := [13]) (by kernel_rfl) (by simp) (AllReadyH.cons rfl (fun K hK => ?_) (AllReadyH.nil))
         refine step_append_any (w3) rfl (.tmp 63) (.tmp 68) 22 rfl X.heap.size 3 i0 z0 1 8 Tryz.underlying22 hinf hz0 hz1 hz2 hz3 (by decide) v3 j (ints (O.take j)) (by rfl) ho3 (X.heap.size + 1) (some ⟨X.heap.size, 0, none⟩) 1 1 [.int .i64 z] (by rfl) hn3 (ints_one [z]) (by unfold maxLen; omega) (by omega) hb3.size ?_
         intro v5 w5 ho5 hg5 hl5
         have hb5 := hb3.grown hg5 hb3.size (fun q hq => (ho3.lt q hq).1)
         have hsz5 := hb5.size
         clear hg5 hl5
         refine hK.out _ _ ((hb5.cell (by rw [block_of_add]; exact hadX)).trans ceX) (fun hHeld => ?_)
         clear hK K
         try simp only [Act.put, sA, sB, sC, sD, sE, sF]
         refine wpAnyH_ready (rs := [20]) (by kernel_rfl) (by simp) (AllReadyH.cons rfl (fun K hK => ?_) (AllReadyH.nil))
         refine step_append_any (w5) rfl (.tmp 69) (.tmp 75) 22 rfl X.heap.size 3 i0 z0 1 8 Tryz.underlying22 hinf hz0 hz1 hz2 hz3 (by decide) v5 (j + 1) (ints (O.take j) ++ [.int .i64 z]) (by rfl) ho5 X.heap.size _ (m - j) _ (ints (O.drop j)) (by rfl) (HD.out.below hb5) (ints_one _) (by unfold maxLen; omega) (by omega) hb5.size ?_
         intro v6 w6 ho6 hg6 hl6
         have hb6 := hb5.grown hg6 hb5.size (fun q hq => (ho5.lt q hq).1)
         have hsz6 := hb6.size
         obtain ⟨A9, c9, rfl, hc9⟩ := own_form ho6
         clear hg6 hl6
         refine hK.out _ _ ((hb6.cell (by rw [block_of_add]; exact hadX)).trans ceX) (fun hHeld => ?_)
         clear hK K
         try simp only [Act.put, sA, sB, sC, sD, sE, sF]
         refine tk (i := 21) (v := ?_) rfl (Or.inl ⟨by rfl, ?_⟩) ?_
         rotate_left
         ·intro X9 hSw; (try simp only [sD, sE, sF]); first | (go_simp; done) | (go_simp; with_reducible rfl)
         try simp only [Act.put, sA, sB, sC, sD, sE, sF]
         refine tk (i := 22) (v := ?_) rfl (Or.inl ⟨by rfl, ?_⟩) ?_
         rotate_left
         ·intro X9 hSw; (try simp only [sD, sE, sF]); first | (go_simp; done) | (go_simp; with_reducible rfl)
         try simp only [Act.put, sA, sB, sC, sD, sE, sF]
         refine wpAnyH_ready (rs := [23]) (by kernel_rfl) (by simp) (AllReadyH.cons rfl (fun K hK => ?_) (AllReadyH.nil))
         have g9 := (hb6.block x3 hxX).trans h3X
         have cl7 := (hb6.cell (p := ⟨x3, 0, none⟩) (show x3 < X.heap.size from hxX)).trans cX
         have fl7 : w6.frozen? ⟨x3, 0, none⟩ = false := Lib.frozen_of_heap g9 0
         try simp only [sD, sE, sF]
         go_simp
         refine hK.out _ _ ((World.cell?_setCell_other _ _ _ _ (by intro e; have := congrArg Addr.block e; rw [block_of_add] at this; first | exact hne3 this | exact hne3 this.symm)).trans ((hb6.cell (by rw [block_of_add]; exact hadX)).trans ceX)) (fun hHeld => ?_)
         clear hK K
         try simp only [Act.put, sA, sB, sC, sD, sE, sF]
         refine wpAnyH_done (by kernel_rfl) ?_ _
         have HROW9 : w6.ownsRow X.heap.size 3 1 (.slice A9 (j + 1 + (m - j)) c9) (j + 1 + (m - j)) (ints (ins8 O z)) := by
          have e : ints (ins8 O z) = ints (O.take j) ++ [.int .i64 z] ++ ints (O.drop j) := by rw [HIN.out]; simp [ints]
          rw [e]
          exact ho6
         have HM9 := Lib.hid (mv_set x3 0 (.slice A9 (j + 1 + (m - j)) c9) w6)
         have HI9 : Hid (InAt x3 (.slice A9 (j + 1 + (m - j)) c9) (ins8 O z) (w6.setCell ⟨x3, 0, none⟩ (.slice A9 (j + 1 + (m - j)) c9))) := (in_of_own HROW9 HIL.out hxX).mvx HM9.out
         have HG9 : Hid ((w6.setCell ⟨x3, 0, none⟩ (.slice A9 (j + 1 + (m - j)) c9)).heap[x3]? = some (.cells #[(.slice A9 (j + 1 + (m - j)) c9)] 34 (0, 0))) := Blk.set_ (show Blk _ x3 34 _ from (hb6.block x3 hxX).trans h3X) 0 _
         have HB9 : Hid (Below w.heap.size w (w6.setCell ⟨x3, 0, none⟩ (.slice A9 (j + 1 + (m - j)) c9))) := (HXW.out.trans (hb6.mono HXW.out.size)).trans (HM9.out.below (fun q hq => by simp at hq; omega) (by have := HXW.out.size; have := hb6.size; omega))
         have HF9 : Hid (fold8 L (l.take (k + 1)) = ins8 O z) := by show _ = _; rw [fold8_step HZK.out, HF.out]
         clear HROW9 ho6 cX h3X ceX
         go_wp2
         all_goals
          go_roundw
          case rel => exact ⟨k + 1, ins8 O z, _, hlt, by go_num, HF9.out, HDY2.out, HG9.out, HI9.out, HB9.out⟩
          case measure => simp [intOf]; omega
       ·have cl3 := (hb2.cell (p := ⟨x3, 0, none⟩) (show x3 < X.heap.size from hxX)).trans cX
        try simp only [sD, sE, sF]
        go_simp
        refine hK.out _ _ ((hb2.cell (by rw [block_of_add]; exact hadX)).trans ceX) (fun hHeld => ?_)
        clear hK K
        try simp only [Act.put, sA, sB, sC, sD, sE, sF]
        refine tk (i := 19) (v := ?_) rfl (Or.inl ⟨by rfl, ?_⟩) ?_
        rotate_left
        ·intro X9 hSw; (try simp only [sD, sE, sF]); first | (go_simp; done) | (go_simp; with_reducible rfl)
        try simp only [Act.put, sA, sB, sC, sD, sE, sF]
        refine wpAnyH_ready (rs := [7]) (by kernel_rfl) (by simp) (AllReadyH.cons rfl (fun K hK => ?_) (AllReadyH.nil))
        refine step_append_any ((X.drew.alloc (.cells #[.int .i64 z] 3))) rfl (.const (.slice none 0 0)) (.tmp 62) 22 rfl X.heap.size 3 i0 z0 1 8 Tryz.underlying22 hinf hz0 hz1 hz2 hz3 (by decide) (.slice none 0 0) 0 [] (by rfl) (World.ownsRow_nil _ _ _ _) X.heap.size Ao j _ (ints (O.take j)) (by rfl) (HP.out.below hb2) (ints_one _) (by unfold maxLen; omega) (by omega) hb2.size ?_
        intro v4 w4 ho4 hg4 hl4
        rw [Nat.zero_add, List.nil_append] at ho4
        have hb4 := hb2.grown hg4 hb2.size (fun q hq => by simp [Value.ownBlock] at hq)
        have hsz4 := hb4.size
        have hn4 := hn2.grown hg4 (by simp) (by simp [Value.ownBlock])
        clear hg4 hl4
        refine hK.out _ _ ((hb4.cell (by rw [block_of_add]; exact hadX)).trans ceX) (fun hHeld => ?_)
        clear hK K
        try simp only [Act.put, sA, sB, sC, sD, sE, sF]
        refine wpAnyH_ready (rs := [13]) (by kernel_rfl) (by simp) (AllReadyH.cons rfl (fun K hK => ?_) (AllReadyH.nil))
        refine step_append_any (w4) rfl (.tmp 63) (.tmp 68) 22 rfl X.heap.size 3 i0 z0 1 8 Tryz.underlying22 hinf hz0 hz1 hz2 hz3 (by decide) v4 j (ints (O.take j)) (by rfl) ho4 (X.heap.size + 1) (some ⟨X.heap.size, 0, none⟩) 1 1 [.int .i64 z] (by rfl) hn4 (ints_one [z]) (by unfold maxLen; omega) (by omega) hb4.size ?_
        intro v5 w5 ho5 hg5 hl5
        have hb5 := hb4.grown hg5 hb4.size (fun q hq => (ho4.lt q hq).1)
        have hsz5 := hb5.size
        clear hg5 hl5
        refine hK.out _ _ ((hb5.cell (by rw [block_of_add]; exact hadX)).trans ceX) (fun hHeld => ?_)
        clear hK K
        try simp only [Act.put, sA, sB, sC, sD, sE, sF]
        refine wpAnyH_ready (rs := [20]) (by kernel_rfl) (by simp) (AllReadyH.cons rfl (fun K hK => ?_) (AllReadyH.nil))
        refine step_append_any (w5) rfl (.tmp 69) (.tmp 75) 22 rfl X.heap.size 3 i0 z0 1 8 Tryz.underlying22 hinf hz0 hz1 hz2 hz3 (by decide) v5 (j + 1) (ints (O.take j) ++ [.int .i64 z]) (by rfl) ho5 X.heap.size _ (m - j) _ (ints (O.drop j)) (by rfl) (HD.out.below hb5) (ints_one _) (by unfold maxLen; omega) (by omega) hb5.size ?_
        intro v6 w6 ho6 hg6 hl6
        have hb6 := hb5.grown hg6 hb5.size (fun q hq => (ho5.lt q hq).1)
        have hsz6 := hb6.size
        obtain ⟨A9, c9, rfl, hc9⟩ := own_form ho6
        clear hg6 hl6
        refine hK.out _ _ ((hb6.cell (by rw [block_of_add]; exact hadX)).trans ceX) (fun hHeld => ?_)
        clear hK K
        try simp only [Act.put, sA, sB, sC, sD, sE, sF]
        refine tk (i := 21) (v := ?_) rfl (Or.inl ⟨by rfl, ?_⟩) ?_
        rotate_left
        ·intro X9 hSw; (try simp only [sD, sE, sF]); first | (go_simp; done) | (go_simp; with_reducible rfl)
        try simp only [Act.put, sA, sB, sC, sD, sE, sF]
        refine tk (i := 22) (v := ?_) rfl (Or.inl ⟨by rfl, ?_⟩) ?_
        rotate_left
        ·intro X9 hSw; (try simp only [sD, sE, sF]); first | (go_simp; done) | (go_simp; with_reducible rfl)
        try simp only [Act.put, sA, sB, sC, sD, sE, sF]
        refine wpAnyH_ready (rs := [23]) (by kernel_rfl) (by simp) (AllReadyH.cons rfl (fun K hK => ?_) (AllReadyH.nil))
        have g9 := (hb6.block x3 hxX).trans h3X
        have cl7 := (hb6.cell (p := ⟨x3, 0, none⟩) (show x3 < X.heap.size from hxX)).trans cX
        have fl7 : w6.frozen? ⟨x3, 0, none⟩ = false := Lib.frozen_of_heap g9 0
        try simp only [sD, sE, sF]
        go_simp
        refine hK.out _ _ ((World.cell?_setCell_other _ _ _ _ (by intro e; have := congrArg Addr.block e; rw [block_of_add] at this; first | exact hne3 this | exact hne3 this.symm)).trans ((hb6.cell (by rw [block_of_add]; exact hadX)).trans ceX)) (fun hHeld => ?_)
        clear hK K
        try simp only [Act.put, sA, sB, sC, sD, sE, sF]
        refine wpAnyH_done (by kernel_rfl) ?_ _
        have HROW9 : w6.ownsRow X.heap.size 3 1 (.slice A9 (j + 1 + (m - j)) c9) (j + 1 + (m - j)) (ints (ins8 O z)) := by
         have e : ints (ins8 O z) = ints (O.take j) ++ [.int .i64 z] ++ ints (O.drop j) := by rw [HIN.out]; simp [ints]
         rw [e]
         exact ho6
        have HM9 := Lib.hid (mv_set x3 0 (.slice A9 (j + 1 + (m - j)) c9) w6)
        have HI9 : Hid (InAt x3 (.slice A9 (j + 1 + (m - j)) c9) (ins8 O z) (w6.setCell ⟨x3, 0, none⟩ (.slice A9 (j + 1 + (m - j)) c9))) := (in_of_own HROW9 HIL.out hxX).mvx HM9.out
        have HG9 : Hid ((w6.setCell ⟨x3, 0, none⟩ (.slice A9 (j + 1 + (m - j)) c9)).heap[x3]? = some (.cells #[(.slice A9 (j + 1 + (m - j)) c9)] 34 (0, 0))) := Blk.set_ (show Blk _ x3 34 _ from (hb6.block x3 hxX).trans h3X) 0 _
        have HB9 : Hid (Below w.heap.size w (w6.setCell ⟨x3, 0, none⟩ (.slice A9 (j + 1 + (m - j)) c9))) := (HXW.out.trans (hb6.mono HXW.out.size)).trans (HM9.out.below (fun q hq => by simp at hq; omega) (by have := HXW.out.size; have := hb6.size; omega))
        have HF9 : Hid (fold8 L (l.take (k + 1)) = ins8 O z) := by show _ = _; rw [fold8_step HZK.out, HF.out]
        clear HROW9 ho6 cX h3X ceX
        go_wp2
        all_goals
         go_roundw
         case rel => exact ⟨k + 1, ins8 O z, _, hlt, by go_num, HF9.out, HDY2.out, HG9.out, HI9.out, HB9.out⟩
         case measure => simp [intOf]; omega
      ·have cl2 := (hb0.cell (p := ⟨x3, 0, none⟩) (show x3 < X.heap.size from hxX)).trans cX
       try simp only [sD, sE, sF]
       go_simp
       refine hK.out _ _ ((hb0.cell (by rw [block_of_add]; exact hadX)).trans ceX) (fun hHeld => ?_)
       clear hK K
       try simp only [Act.put, sA, sB, sC, sD, sE, sF]
       refine tk (i := 19) (v := ?_) rfl (Or.inl ⟨by rfl, ?_⟩) ?_
       rotate_left
       ·intro X9 hSw; (try simp only [sD, sE, sF]); first | (go_simp; done) | (go_simp; with_reducible rfl)
       try simp only [Act.put, sA, sB, sC, sD, sE, sF]
       refine wpAnyH_ready (rs := [7, 12]) (by kernel_rfl) (by simp) (AllReadyH.cons rfl (fun K hK => ?_) (AllReadyH.cons rfl (fun K hK => ?_) (AllReadyH.nil)))
       ·refine step_append_any (X.drew) rfl (.const (.slice none 0 0)) (.tmp 62) 22 rfl X.heap.size 3 i0 z0 1 8 Tryz.underlying22 hinf hz0 hz1 hz2 hz3 (by decide) (.slice none 0 0) 0 [] (by rfl) (World.ownsRow_nil _ _ _ _) X.heap.size Ao j _ (ints (O.take j)) (by rfl) (HP.out.below hb0) (ints_one _) (by unfold maxLen; omega) (by omega) hb0.size ?_
        intro v3 w3 ho3 hg3 hl3
        rw [Nat.zero_add, List.nil_append] at ho3
        have hb3 := hb0.grown hg3 hb0.size (fun q hq => by simp [Value.ownBlock] at hq)
        have hsz3 := hb3.size
        clear hg3 hl3
        refine hK.out _ _ ((hb3.cell (by rw [block_of_add]; exact hadX)).trans ceX) (fun hHeld => ?_)
        clear hK K
        try simp only [Act.put, sA, sB, sC, sD, sE, sF]
        refine wpAnyH_ready (rs := [12]) (by kernel_rfl) (by simp) (AllReadyH.cons rfl (fun K hK => ?_) (AllReadyH.nil))
        have hb4 := hb3.alloc hb3.size (.cells #[.int .i64 z] 3)
        try simp only [sD, sE, sF]
        go_simp
        refine hK.out _ _ ((hb4.cell (by rw [block_of_add]; exact hadX)).trans ceX) (fun hHeld => ?_)
        clear hK K
        try simp only [Act.put, sA, sB, sC, sD, sE, sF]
        have hsz4 := hb4.size
        have hn4 : Reads (w3.alloc (.cells #[.int .i64 z] 3)) (w3.heap.size + 1) 1 (some ⟨w3.heap.size, 0, none⟩) 1 [.int .i64 z] := reads_newN w3 [.int .i64 z] 3 #[.int .i64 z] rfl (N := 1) rfl
        have ho4 := ho3.alloc (.cells #[.int .i64 z] 3)
        refine wpAnyH_ready (rs := [13]) (by kernel_rfl) (by simp) (AllReadyH.cons rfl (fun K hK => ?_) (AllReadyH.nil))
        refine step_append_any ((w3.alloc (.cells #[.int .i64 z] 3))) rfl (.tmp 63) (.tmp 68) 22 rfl X.heap.size 3 i0 z0 1 8 Tryz.underlying22 hinf hz0 hz1 hz2 hz3 (by decide) v3 j (ints (O.take j)) (by rfl) ho4 (w3.heap.size + 1) (some ⟨w3.heap.size, 0, none⟩) 1 1 [.int .i64 z] (by rfl) hn4 (ints_one [z]) (by unfold maxLen; omega) (by omega) hb4.size ?_
        intro v5 w5 ho5 hg5 hl5
        have hb5 := hb4.grown hg5 hb4.size (fun q hq => (ho4.lt q hq).1)
        have hsz5 := hb5.size
        clear hg5 hl5
        refine hK.out _ _ ((hb5.cell (by rw [block_of_add]; exact hadX)).trans ceX) (fun hHeld => ?_)
        clear hK K
        try simp only [Act.put, sA, sB, sC, sD, sE, sF]
        refine wpAnyH_ready (rs := [20]) (by kernel_rfl) (by simp) (AllReadyH.cons rfl (fun K hK => ?_) (AllReadyH.nil))
        refine step_append_any (w5) rfl (.tmp 69) (.tmp 75) 22 rfl X.heap.size 3 i0 z0 1 8 Tryz.underlying22 hinf hz0 hz1 hz2 hz3 (by decide) v5 (j + 1) (ints (O.take j) ++ [.int .i64 z]) (by rfl) ho5 X.heap.size _ (m - j) _ (ints (O.drop j)) (by rfl) (HD.out.below hb5) (ints_one _) (by unfold maxLen; omega) (by omega) hb5.size ?_
        intro v6 w6 ho6 hg6 hl6
        have hb6 := hb5.grown hg6 hb5.size (fun q hq => (ho5.lt q hq).1)
        have hsz6 := hb6.size
        obtain ⟨A9, c9, rfl, hc9⟩ := own_form ho6
        clear hg6 hl6
        refine hK.out _ _ ((hb6.cell (by rw [block_of_add]; exact hadX)).trans ceX) (fun hHeld => ?_)
        clear hK K
        try simp only [Act.put, sA, sB, sC, sD, sE, sF]
        refine tk (i := 21) (v := ?_) rfl (Or.inl ⟨by rfl, ?_⟩) ?_
        rotate_left
        ·intro X9 hSw; (try simp only [sD, sE, sF]); first | (go_simp; done) | (go_simp; with_reducible rfl)
        try simp only [Act.put, sA, sB, sC, sD, sE, sF]
        refine tk (i := 22) (v := ?_) rfl (Or.inl ⟨by rfl, ?_⟩) ?_
        rotate_left
        ·intro X9 hSw; (try simp only [sD, sE, sF]); first | (go_simp; done) | (go_simp; with_reducible rfl)
        try simp only [Act.put, sA, sB, sC, sD, sE, sF]
        refine wpAnyH_ready (rs := [23]) (by kernel_rfl) (by simp) (AllReadyH.cons rfl (fun K hK => ?_) (AllReadyH.nil))
        have g9 := (hb6.block x3 hxX).trans h3X
        have cl7 := (hb6.cell (p := ⟨x3, 0, none⟩) (show x3 < X.heap.size from hxX)).trans cX
        have fl7 : w6.frozen? ⟨x3, 0, none⟩ = false := Lib.frozen_of_heap g9 0
        try simp only [sD, sE, sF]
        go_simp
        refine hK.out _ _ ((World.cell?_setCell_other _ _ _ _ (by intro e; have := congrArg Addr.block e; rw [block_of_add] at this; first | exact hne3 this | exact hne3 this.symm)).trans ((hb6.cell (by rw [block_of_add]; exact hadX)).trans ceX)) (fun hHeld => ?_)
        clear hK K
        try simp only [Act.put, sA, sB, sC, sD, sE, sF]
        refine wpAnyH_done (by kernel_rfl) ?_ _
        have HROW9 : w6.ownsRow X.heap.size 3 1 (.slice A9 (j + 1 + (m - j)) c9) (j + 1 + (m - j)) (ints (ins8 O z)) := by
         have e : ints (ins8 O z) = ints (O.take j) ++ [.int .i64 z] ++ ints (O.drop j) := by rw [HIN.out]; simp [ints]
         rw [e]
         exact ho6
        have HM9 := Lib.hid (mv_set x3 0 (.slice A9 (j + 1 + (m - j)) c9) w6)
        have HI9 : Hid (InAt x3 (.slice A9 (j + 1 + (m - j)) c9) (ins8 O z) (w6.setCell ⟨x3, 0, none⟩ (.slice A9 (j + 1 + (m - j)) c9))) := (in_of_own HROW9 HIL.out hxX).mvx HM9.out
        have HG9 : Hid ((w6.setCell ⟨x3, 0, none⟩ (.slice A9 (j + 1 + (m - j)) c9)).heap[x3]? = some (.cells #[(.slice A9 (j + 1 + (m - j)) c9)] 34 (0, 0))) := Blk.set_ (show Blk _ x3 34 _ from (hb6.block x3 hxX).trans h3X) 0 _
        have HB9 : Hid (Below w.heap.size w (w6.setCell ⟨x3, 0, none⟩ (.slice A9 (j + 1 + (m - j)) c9))) := (HXW.out.trans (hb6.mono HXW.out.size)).trans (HM9.out.below (fun q hq => by simp at hq; omega) (by have := HXW.out.size; have := hb6.size; omega))
        have HF9 : Hid (fold8 L (l.take (k + 1)) = ins8 O z) := by show _ = _; rw [fold8_step HZK.out, HF.out]
        clear HROW9 ho6 cX h3X ceX
        go_wp2
        all_goals
         go_roundw
         case rel => exact ⟨k + 1, ins8 O z, _, hlt, by go_num, HF9.out, HDY2.out, HG9.out, HI9.out, HB9.out⟩
         case measure => simp [intOf]; omega
       ·have hb3 := hb0.alloc hb0.size (.cells #[.int .i64 z] 3)
        try simp only [sD, sE, sF]
        go_simp
        refine hK.out _ _ ((hb3.cell (by rw [block_of_add]; exact hadX)).trans ceX) (fun hHeld => ?_)
        clear hK K
        try simp only [Act.put, sA, sB, sC, sD, sE, sF]
        have hsz3 := hb3.size
        have hn3 : Reads (X.drew.alloc (.cells #[.int .i64 z] 3)) (X.heap.size + 1) 1 (some ⟨X.heap.size, 0, none⟩) 1 [.int .i64 z] := reads_newN X.drew [.int .i64 z] 3 #[.int .i64 z] rfl (N := 1) rfl
        refine wpAnyH_ready (rs := [7]) (by kernel_rfl) (by simp) (AllReadyH.cons rfl (fun K hK => ?_) (AllReadyH.nil))
        refine step_append_any ((X.drew.alloc (.cells #[.int .i64 z] 3))) rfl (.const (.slice none 0 0)) (.tmp 62) 22 rfl X.heap.size 3 i0 z0 1 8 Tryz.underlying22 hinf hz0 hz1 hz2 hz3 (by decide) (.slice none 0 0) 0 [] (by rfl) (World.ownsRow_nil _ _ _ _) X.heap.size Ao j _ (ints (O.take j)) (by rfl) (HP.out.below hb3) (ints_one _) (by unfold maxLen; omega) (by omega) hb3.size ?_
        intro v4 w4 ho4 hg4 hl4
        rw [Nat.zero_add, List.nil_append] at ho4
        have hb4 := hb3.grown hg4 hb3.size (fun q hq => by simp [Value.ownBlock] at hq)
        have hsz4 := hb4.size
        have hn4 := hn3.grown hg4 (by simp) (by simp [Value.ownBlock])
        clear hg4 hl4
        refine hK.out _ _ ((hb4.cell (by rw [block_of_add]; exact hadX)).trans ceX) (fun hHeld => ?_)
        clear hK K
        try simp only [Act.put, sA, sB, sC, sD, sE, sF]
        refine wpAnyH_ready (rs := [13]) (by kernel_rfl) (by simp) (AllReadyH.cons rfl (fun K hK => ?_) (AllReadyH.nil))
        refine step_append_any (w4) rfl (.tmp 63) (.tmp 68) 22 rfl X.heap.size 3 i0 z0 1 8 Tryz.underlying22 hinf hz0 hz1 hz2 hz3 (by decide) v4 j (ints (O.take j)) (by rfl) ho4 (X.heap.size + 1) (some ⟨X.heap.size, 0, none⟩) 1 1 [.int .i64 z] (by rfl) hn4 (ints_one [z]) (by unfold maxLen; omega) (by omega) hb4.size ?_
        intro v5 w5 ho5 hg5 hl5
        have hb5 := hb4.grown hg5 hb4.size (fun q hq => (ho4.lt q hq).1)
        have hsz5 := hb5.size
        clear hg5 hl5
        refine hK.out _ _ ((hb5.cell (by rw [block_of_add]; exact hadX)).trans ceX) (fun hHeld => ?_)
        clear hK K
        try simp only [Act.put, sA, sB, sC, sD, sE, sF]
        refine wpAnyH_ready (rs := [20]) (by kernel_rfl) (by simp) (AllReadyH.cons rfl (fun K hK => ?_) (AllReadyH.nil))
        refine step_append_any (w5) rfl (.tmp 69) (.tmp 75) 22 rfl X.heap.size 3 i0 z0 1 8 Tryz.underlying22 hinf hz0 hz1 hz2 hz3 (by decide) v5 (j + 1) (ints (O.take j) ++ [.int .i64 z]) (by rfl) ho5 X.heap.size _ (m - j) _ (ints (O.drop j)) (by rfl) (HD.out.below hb5) (ints_one _) (by unfold maxLen; omega) (by omega) hb5.size ?_
        intro v6 w6 ho6 hg6 hl6
        have hb6 := hb5.grown hg6 hb5.size (fun q hq => (ho5.lt q hq).1)
        have hsz6 := hb6.size
        obtain ⟨A9, c9, rfl, hc9⟩ := own_form ho6
        clear hg6 hl6
        refine hK.out _ _ ((hb6.cell (by rw [block_of_add]; exact hadX)).trans ceX) (fun hHeld => ?_)
        clear hK K
        try simp only [Act.put, sA, sB, sC, sD, sE, sF]
        refine tk (i := 21) (v := ?_) rfl (Or.inl ⟨by rfl, ?_⟩) ?_
        rotate_left
        ·intro X9 hSw; (try simp only [sD, sE, sF]); first | (go_simp; done) | (go_simp; with_reducible rfl)
        try simp only [Act.put, sA, sB, sC, sD, sE, sF]
        refine tk (i := 22) (v := ?_) rfl (Or.inl ⟨by rfl, ?_⟩) ?_
        rotate_left
        ·intro X9 hSw; (try simp only [sD, sE, sF]); first | (go_simp; done) | (go_simp; with_reducible rfl)
        try simp only [Act.put, sA, sB, sC, sD, sE, sF]
        refine wpAnyH_ready (rs := [23]) (by kernel_rfl) (by simp) (AllReadyH.cons rfl (fun K hK => ?_) (AllReadyH.nil))
        have g9 := (hb6.block x3 hxX).trans h3X
        have cl7 := (hb6.cell (p := ⟨x3, 0, none⟩) (show x3 < X.heap.size from hxX)).trans cX
        have fl7 : w6.frozen? ⟨x3, 0, none⟩ = false := Lib.frozen_of_heap g9 0
        try simp only [sD, sE, sF]
        go_simp
        refine hK.out _ _ ((World.cell?_setCell_other _ _ _ _ (by intro e; have := congrArg Addr.block e; rw [block_of_add] at this; first | exact hne3 this | exact hne3 this.symm)).trans ((hb6.cell (by rw [block_of_add]; exact hadX)).trans ceX)) (fun hHeld => ?_)
        clear hK K
        try simp only [Act.put, sA, sB, sC, sD, sE, sF]
        refine wpAnyH_done (by kernel_rfl) ?_ _
        have HROW9 : w6.ownsRow X.heap.size 3 1 (.slice A9 (j + 1 + (m - j)) c9) (j + 1 + (m - j)) (ints (ins8 O z)) := by
         have e : ints (ins8 O z) = ints (O.take j) ++ [.int .i64 z] ++ ints (O.drop j) := by rw [HIN.out]; simp [ints]
         rw [e]
         exact ho6
        have HM9 := Lib.hid (mv_set x3 0 (.slice A9 (j + 1 + (m - j)) c9) w6)
        have HI9 : Hid (InAt x3 (.slice A9 (j + 1 + (m - j)) c9) (ins8 O z) (w6.setCell ⟨x3, 0, none⟩ (.slice A9 (j + 1 + (m - j)) c9))) := (in_of_own HROW9 HIL.out hxX).mvx HM9.out
        have HG9 : Hid ((w6.setCell ⟨x3, 0, none⟩ (.slice A9 (j + 1 + (m - j)) c9)).heap[x3]? = some (.cells #[(.slice A9 (j + 1 + (m - j)) c9)] 34 (0, 0))) := Blk.set_ (show Blk _ x3 34 _ from (hb6.block x3 hxX).trans h3X) 0 _
        have HB9 : Hid (Below w.heap.size w (w6.setCell ⟨x3, 0, none⟩ (.slice A9 (j + 1 + (m - j)) c9))) := (HXW.out.trans (hb6.mono HXW.out.size)).trans (HM9.out.below (fun q hq => by simp at hq; omega) (by have := HXW.out.size; have := hb6.size; omega))
        have HF9 : Hid (fold8 L (l.take (k + 1)) = ins8 O z) := by show _ = _; rw [fold8_step HZK.out, HF.out]
        clear HROW9 ho6 cX h3X ceX
        go_wp2
        all_goals
         go_roundw
         case rel => exact ⟨k + 1, ins8 O z, _, hlt, by go_num, HF9.out, HDY2.out, HG9.out, HI9.out, HB9.out⟩
         case measure => simp [intOf]; omega
     ·have hb1 := hb0.alloc hb0.size (.cells #[.int .i64 z] 3)
      try simp only [sD, sE, sF]
      go_simp
      refine hK.out _ _ ((hb1.cell (by rw [block_of_add]; exact hadX)).trans ceX) (fun hHeld => ?_)
      clear hK K
      try simp only [Act.put, sA, sB, sC, sD, sE, sF]
      have hsz1 := hb1.size
      have hn1 : Reads (X.drew.alloc (.cells #[.int .i64 z] 3)) (X.heap.size + 1) 1 (some ⟨X.heap.size, 0, none⟩) 1 [.int .i64 z] := reads_newN X.drew [.int .i64 z] 3 #[.int .i64 z] rfl (N := 1) rfl
      refine wpAnyH_ready (rs := [4, 17]) (by kernel_rfl) (by simp) (AllReadyH.cons rfl (fun K hK => ?_) (AllReadyH.cons rfl (fun K hK => ?_) (AllReadyH.nil)))
      ·have cl2 := (hb1.cell (p := ⟨x3, 0, none⟩) (show x3 < X.heap.size from hxX)).trans cX
       try simp only [sD, sE, sF]
       go_simp
       refine hK.out _ _ ((hb1.cell (by rw [block_of_add]; exact hadX)).trans ceX) (fun hHeld => ?_)
       clear hK K
       try simp only [Act.put, sA, sB, sC, sD, sE, sF]
       refine tk (i := 6) (v := ?_) rfl (Or.inl ⟨by rfl, ?_⟩) ?_
       rotate_left
       ·intro X9 hSw; (try simp only [sD, sE, sF]); first | (go_simp; done) | (go_simp; with_reducible rfl)
       try simp only [Act.put, sA, sB, sC, sD, sE, sF]
       refine wpAnyH_ready (rs := [7, 17]) (by kernel_rfl) (by simp) (AllReadyH.cons rfl (fun K hK => ?_) (AllReadyH.cons rfl (fun K hK => ?_) (AllReadyH.nil)))
       ·refine step_append_any ((X.drew.alloc (.cells #[.int .i64 z] 3))) rfl (.const (.slice none 0 0)) (.tmp 62) 22 rfl X.heap.size 3 i0 z0 1 8 Tryz.underlying22 hinf hz0 hz1 hz2 hz3 (by decide) (.slice none 0 0) 0 [] (by rfl) (World.ownsRow_nil _ _ _ _) X.heap.size Ao j _ (ints (O.take j)) (by rfl) (HP.out.below hb1) (ints_one _) (by unfold maxLen; omega) (by omega) hb1.size ?_
        intro v3 w3 ho3 hg3 hl3
        rw [Nat.zero_add, List.nil_append] at ho3
        have hb3 := hb1.grown hg3 hb1.size (fun q hq => by simp [Value.ownBlock] at hq)
        have hsz3 := hb3.size
        have hn3 := hn1.grown hg3 (by simp) (by simp [Value.ownBlock])
        clear hg3 hl3
        refine hK.out _ _ ((hb3.cell (by rw [block_of_add]; exact hadX)).trans ceX) (fun hHeld => ?_)
        clear hK K
        try simp only [Act.put, sA, sB, sC, sD, sE, sF]
        refine wpAnyH_ready (rs := [13, 17]) (by kernel_rfl) (by simp) (AllReadyH.cons rfl (fun K hK => ?_) (AllReadyH.cons rfl (fun K hK => ?_) (AllReadyH.nil)))
        ·refine step_append_any (w3) rfl (.tmp 63) (.tmp 68) 22 rfl X.heap.size 3 i0 z0 1 8 Tryz.underlying22 hinf hz0 hz1 hz2 hz3 (by decide) v3 j (ints (O.take j)) (by rfl) ho3 (X.heap.size + 1) (some ⟨X.heap.size, 0, none⟩) 1 1 [.int .i64 z] (by rfl) hn3 (ints_one [z]) (by unfold maxLen; omega) (by omega) hb3.size ?_
         intro v4 w4 ho4 hg4 hl4
         have hb4 := hb3.grown hg4 hb3.size (fun q hq => (ho3.lt q hq).1)
         have hsz4 := hb4.size
         clear hg4 hl4
         refine hK.out _ _ ((hb4.cell (by rw [block_of_add]; exact hadX)).trans ceX) (fun hHeld => ?_)
         clear hK K
         try simp only [Act.put, sA, sB, sC, sD, sE, sF]
         refine wpAnyH_ready (rs := [17]) (by kernel_rfl) (by simp) (AllReadyH.cons rfl (fun K hK => ?_) (AllReadyH.nil))
         have cl5 := (hb4.cell (p := ⟨x3, 0, none⟩) (show x3 < X.heap.size from hxX)).trans cX
         try simp only [sD, sE, sF]
         go_simp
         refine hK.out _ _ ((hb4.cell (by rw [block_of_add]; exact hadX)).trans ceX) (fun hHeld => ?_)
         clear hK K
         try simp only [Act.put, sA, sB, sC, sD, sE, sF]
         refine tk (i := 19) (v := ?_) rfl (Or.inl ⟨by rfl, ?_⟩) ?_
         rotate_left
         ·intro X9 hSw; (try simp only [sD, sE, sF]); first | (go_simp; done) | (go_simp; with_reducible rfl)
         try simp only [Act.put, sA, sB, sC, sD, sE, sF]
         refine wpAnyH_ready (rs := [20]) (by kernel_rfl) (by simp) (AllReadyH.cons rfl (fun K hK => ?_) (AllReadyH.nil))
         refine step_append_any (w4) rfl (.tmp 69) (.tmp 75) 22 rfl X.heap.size 3 i0 z0 1 8 Tryz.underlying22 hinf hz0 hz1 hz2 hz3 (by decide) v4 (j + 1) (ints (O.take j) ++ [.int .i64 z]) (by rfl) ho4 X.heap.size _ (m - j) _ (ints (O.drop j)) (by rfl) (HD.out.below hb4) (ints_one _) (by unfold maxLen; omega) (by omega) hb4.size ?_
         intro v6 w6 ho6 hg6 hl6
         have hb6 := hb4.grown hg6 hb4.size (fun q hq => (ho4.lt q hq).1)
         have hsz6 := hb6.size
         obtain ⟨A9, c9, rfl, hc9⟩ := own_form ho6
         clear hg6 hl6
         refine hK.out _ _ ((hb6.cell (by rw [block_of_add]; exact hadX)).trans ceX) (fun hHeld => ?_)
         clear hK K
         try simp only [Act.put, sA, sB, sC, sD, sE, sF]
         refine tk (i := 21) (v := ?_) rfl (Or.inl ⟨by rfl, ?_⟩) ?_
         rotate_left
         ·intro X9 hSw; (try simp only [sD, sE, sF]); first | (go_simp; done) | (go_simp; with_reducible rfl)
         try simp only [Act.put, sA, sB, sC, sD, sE, sF]
         refine tk (i := 22) (v := ?_) rfl (Or.inl ⟨by rfl, ?_⟩) ?_
         rotate_left
         ·intro X9 hSw; (try simp only [sD, sE, sF]); first | (go_simp; done) | (go_simp; with_reducible rfl)
         try simp only [Act.put, sA, sB, sC, sD, sE, sF]
         refine wpAnyH_ready (rs := [23]) (by kernel_rfl) (by simp) (AllReadyH.cons rfl (fun K hK => ?_) (AllReadyH.nil))
         have g9 := (hb6.block x3 hxX).trans h3X
         have cl7 := (hb6.cell (p := ⟨x3, 0, none⟩) (show x3 < X.heap.size from hxX)).trans cX
         have fl7 : w6.frozen? ⟨x3, 0, none⟩ = false := Lib.frozen_of_heap g9 0
         try simp only [sD, sE, sF]
         go_simp
         refine hK.out _ _ ((World.cell?_setCell_other _ _ _ _ (by intro e; have := congrArg Addr.block e; rw [block_of_add] at this; first | exact hne3 this | exact hne3 this.symm)).trans ((hb6.cell (by rw [block_of_add]; exact hadX)).trans ceX)) (fun hHeld => ?_)
         clear hK K
         try simp only [Act.put, sA, sB, sC, sD, sE, sF]
         refine wpAnyH_done (by kernel_rfl) ?_ _
         have HROW9 : w6.ownsRow X.heap.size 3 1 (.slice A9 (j + 1 + (m - j)) c9) (j + 1 + (m - j)) (ints (ins8 O z)) := by
          have e : ints (ins8 O z) = ints (O.take j) ++ [.int .i64 z] ++ ints (O.drop j) := by rw [HIN.out]; simp [ints]
          rw [e]
          exact ho6
         have HM9 := Lib.hid (mv_set x3 0 (.slice A9 (j + 1 + (m - j)) c9) w6)
         have HI9 : Hid (InAt x3 (.slice A9 (j + 1 + (m - j)) c9) (ins8 O z) (w6.setCell ⟨x3, 0, none⟩ (.slice A9 (j + 1 + (m - j)) c9))) := (in_of_own HROW9 HIL.out hxX).mvx HM9.out
         have HG9 : Hid ((w6.setCell ⟨x3, 0, none⟩ (.slice A9 (j + 1 + (m - j)) c9)).heap[x3]? = some (.cells #[(.slice A9 (j + 1 + (m - j)) c9)] 34 (0, 0))) := Blk.set_ (show Blk _ x3 34 _ from (hb6.block x3 hxX).trans h3X) 0 _
         have HB9 : Hid (Below w.heap.size w (w6.setCell ⟨x3, 0, none⟩ (.slice A9 (j + 1 + (m - j)) c9))) := (HXW.out.trans (hb6.mono HXW.out.size)).trans (HM9.out.below (fun q hq => by simp at hq; omega) (by have := HXW.out.size; have := hb6.size; omega))
         have HF9 : Hid (fold8 L (l.take (k + 1)) = ins8 O z) := by show _ = _; rw [fold8_step HZK.out, HF.out]
         clear HROW9 ho6 cX h3X ceX
         go_wp2
         all_goals
          go_roundw
          case rel => exact ⟨k + 1, ins8 O z, _, hlt, by go_num, HF9.out, HDY2.out, HG9.out, HI9.out, HB9.out⟩
          case measure => simp [intOf]; omega
        ·have cl4 := (hb3.cell (p := ⟨x3, 0, none⟩) (show x3 < X.heap.size from hxX)).trans cX
         try simp only [sD, sE, sF]
         go_simp
         refine hK.out _ _ ((hb3.cell (by rw [block_of_add]; exact hadX)).trans ceX) (fun hHeld => ?_)
         clear hK K
         try simp only [Act.put, sA, sB, sC, sD, sE, sF]
         refine tk (i := 19) (v := ?_) rfl (Or.inl ⟨by rfl, ?_⟩) ?_
         rotate_left
         ·intro X9 hSw; (try simp only [sD, sE, sF]); first | (go_simp; done) | (go_simp; with_reducible rfl)
         try simp only [Act.put, sA, sB, sC, sD, sE, sF]
         refine wpAnyH_ready (rs := [13]) (by kernel_rfl) (by simp) (AllReadyH.cons rfl (fun K hK => ?_) (AllReadyH.nil))
         refine step_append_any (w3) rfl (.tmp 63) (.tmp 68) 22 rfl X.heap.size 3 i0 z0 1 8 Tryz.underlying22 hinf hz0 hz1 hz2 hz3 (by decide) v3 j (ints (O.take j)) (by rfl) ho3 (X.heap.size + 1) (some ⟨X.heap.size, 0, none⟩) 1 1 [.int .i64 z] (by rfl) hn3 (ints_one [z]) (by unfold maxLen; omega) (by omega) hb3.size ?_
         intro v5 w5 ho5 hg5 hl5
         have hb5 := hb3.grown hg5 hb3.size (fun q hq => (ho3.lt q hq).1)
         have hsz5 := hb5.size
         clear hg5 hl5
         refine hK.out _ _ ((hb5.cell (by rw [block_of_add]; exact hadX)).trans ceX) (fun hHeld => ?_)
         clear hK K
         try simp only [Act.put, sA, sB, sC, sD, sE, sF]
         refine wpAnyH_ready (rs := [20]) (by kernel_rfl) (by simp) (AllReadyH.cons rfl (fun K hK => ?_) (AllReadyH.nil))
         refine step_append_any (w5) rfl (.tmp 69) (.tmp 75) 22 rfl X.heap.size 3 i0 z0 1 8 Tryz.underlying22 hinf hz0 hz1 hz2 hz3 (by decide) v5 (j + 1) (ints (O.take j) ++ [.int .i64 z]) (by rfl) ho5 X.heap.size _ (m - j) _ (ints (O.drop j)) (by rfl) (HD.out.below hb5) (ints_one _) (by unfold maxLen; omega) (by omega) hb5.size ?_
         intro v6 w6 ho6 hg6 hl6
         have hb6 := hb5.grown hg6 hb5.size (fun q hq => (ho5.lt q hq).1)
         have hsz6 := hb6.size
         obtain ⟨A9, c9, rfl, hc9⟩ := own_form ho6
         clear hg6 hl6
         refine hK.out _ _ ((hb6.cell (by rw [block_of_add]; exact hadX)).trans ceX) (fun hHeld => ?_)
         clear hK K
         try simp only [Act.put, sA, sB, sC, sD, sE, sF]
         refine tk (i := 21) (v := ?_) rfl (Or.inl ⟨by rfl, ?_⟩) ?_
         rotate_left
         ·intro X9 hSw; (try simp only [sD, sE, sF]); first | (go_simp; done) | (go_simp; with_reducible rfl)
         try simp only [Act.put, sA, sB, sC, sD, sE, sF]
         refine tk (i := 22) (v := ?_) rfl (Or.inl ⟨by rfl, ?_⟩) ?_
         rotate_left
         ·intro X9 hSw; (try simp only [sD, sE, sF]); first | (go_simp; done) | (go_simp; with_reducible rfl)
         try simp only [Act.put, sA, sB, sC, sD, sE, sF]
         refine wpAnyH_ready (rs := [23]) (by kernel_rfl) (by simp) (AllReadyH.cons rfl (fun K hK => ?_) (AllReadyH.nil))
         have g9 := (hb6.block x3 hxX).trans h3X
         have cl7 := (hb6.cell (p := ⟨x3, 0, none⟩) (show x3 < X.heap.size from hxX)).trans cX
         have fl7 : w6.frozen? ⟨x3, 0, none⟩ = false := Lib.frozen_of_heap g9 0
         try simp only [sD, sE, sF]
         go_simp
         refine hK.out _ _ ((World.cell?_setCell_other _ _ _ _ (by intro e; have := congrArg Addr.block e; rw [block_of_add] at this; first | exact hne3 this | exact hne3 this.symm)).trans ((hb6.cell (by rw [block_of_add]; exact hadX)).trans ceX)) (fun hHeld => ?_)
         clear hK K
         try simp only [Act.put, sA, sB, sC, sD, sE, sF]
         refine wpAnyH_done (by kernel_rfl) ?_ _
         have HROW9 : w6.ownsRow X.heap.size 3 1 (.slice A9 (j + 1 + (m - j)) c9) (j + 1 + (m - j)) (ints (ins8 O z)) := by
          have e : ints (ins8 O z) = ints (O.take j) ++ [.int .i64 z] ++ ints (O.drop j) := by rw [HIN.out]; simp [ints]
          rw [e]
          exact ho6
         have HM9 := Lib.hid (mv_set x3 0 (.slice A9 (j + 1 + (m - j)) c9) w6)
         have HI9 : Hid (InAt x3 (.slice A9 (j + 1 + (m - j)) c9) (ins8 O z) (w6.setCell ⟨x3, 0, none⟩ (.slice A9 (j + 1 + (m - j)) c9))) := (in_of_own HROW9 HIL.out hxX).mvx HM9.out
         have HG9 : Hid ((w6.setCell ⟨x3, 0, none⟩ (.slice A9 (j + 1 + (m - j)) c9)).heap[x3]? = some (.cells #[(.slice A9 (j + 1 + (m - j)) c9)] 34 (0, 0))) := Blk.set_ (show Blk _ x3 34 _ from (hb6.block x3 hxX).trans h3X) 0 _
         have HB9 : Hid (Below w.heap.size w (w6.setCell ⟨x3, 0, none⟩ (.slice A9 (j + 1 + (m - j)) c9))) := (HXW.out.trans (hb6.mono HXW.out.size)).trans (HM9.out.below (fun q hq => by simp at hq; omega) (by have := HXW.out.size; have := hb6.size; omega))
         have HF9 : Hid (fold8 L (l.take (k + 1)) = ins8 O z) := by show _ = _; rw [fold8_step HZK.out, HF.out]
         clear HROW9 ho6 cX h3X ceX
         go_wp2
         all_goals
          go_roundw
          case rel => exact ⟨k + 1, ins8 O z, _, hlt, by go_num, HF9.out, HDY2.out, HG9.out, HI9.out, HB9.out⟩
          case measure => simp [intOf]; omega
       ·have cl3 := (hb1.cell (p := ⟨x3, 0, none⟩) (show x3 < X.heap.size from hxX)).trans cX
        try simp only [sD, sE, sF]
        go_simp
        refine hK.out _ _ ((hb1.cell (by rw [block_of_add]; exact hadX)).trans ceX) (fun hHeld => ?_)
        clear hK K
        try simp only [Act.put, sA, sB, sC, sD, sE, sF]
        refine tk (i := 19) (v := ?_) rfl (Or.inl ⟨by rfl, ?_⟩) ?_
        rotate_left
        ·intro X9 hSw; (try simp only [sD, sE, sF]); first | (go_simp; done) | (go_simp; with_reducible rfl)
        try simp only [Act.put, sA, sB, sC, sD, sE, sF]
        refine wpAnyH_ready (rs := [7]) (by kernel_rfl) (by simp) (AllReadyH.cons rfl (fun K hK => ?_) (AllReadyH.nil))
        refine step_append_any ((X.drew.alloc (.cells #[.int .i64 z] 3))) rfl (.const (.slice none 0 0)) (.tmp 62) 22 rfl X.heap.size 3 i0 z0 1 8 Tryz.underlying22 hinf hz0 hz1 hz2 hz3 (by decide) (.slice none 0 0) 0 [] (by rfl) (World.ownsRow_nil _ _ _ _) X.heap.size Ao j _ (ints (O.take j)) (by rfl) (HP.out.below hb1) (ints_one _) (by unfold maxLen; omega) (by omega) hb1.size ?_
        intro v4 w4 ho4 hg4 hl4
        rw [Nat.zero_add, List.nil_append] at ho4
        have hb4 := hb1.grown hg4 hb1.size (fun q hq => by simp [Value.ownBlock] at hq)
        have hsz4 := hb4.size
        have hn4 := hn1.grown hg4 (by simp) (by simp [Value.ownBlock])
        clear hg4 hl4
        refine hK.out _ _ ((hb4.cell (by rw [block_of_add]; exact hadX)).trans ceX) (fun hHeld => ?_)
        clear hK K
        try simp only [Act.put, sA, sB, sC, sD, sE, sF]
        refine wpAnyH_ready (rs := [13]) (by kernel_rfl) (by simp) (AllReadyH.cons rfl (fun K hK => ?_) (AllReadyH.nil))
        refine step_append_any (w4) rfl (.tmp 63) (.tmp 68) 22 rfl X.heap.size 3 i0 z0 1 8 Tryz.underlying22 hinf hz0 hz1 hz2 hz3 (by decide) v4 j (ints (O.take j)) (by rfl) ho4 (X.heap.size + 1) (some ⟨X.heap.size, 0, none⟩) 1 1 [.int .i64 z] (by rfl) hn4 (ints_one [z]) (by unfold maxLen; omega) (by omega) hb4.size ?_
        intro v5 w5 ho5 hg5 hl5
        have hb5 := hb4.grown hg5 hb4.size (fun q hq => (ho4.lt q hq).1)
        have hsz5 := hb5.size
        clear hg5 hl5
        refine hK.out _ _ ((hb5.cell (by rw [block_of_add]; exact hadX)).trans ceX) (fun hHeld => ?_)
        clear hK K
        try simp only [Act.put, sA, sB, sC, sD, sE, sF]
        refine wpAnyH_ready (rs := [20]) (by kernel_rfl) (by simp) (AllReadyH.cons rfl (fun K hK => ?_) (AllReadyH.nil))
        refine step_append_any (w5) rfl (.tmp 69) (.tmp 75) 22 rfl X.heap.size 3 i0 z0 1 8 Tryz.underlying22 hinf hz0 hz1 hz2 hz3 (by decide) v5 (j + 1) (ints (O.take j) ++ [.int .i64 z]) (by rfl) ho5 X.heap.size _ (m - j) _ (ints (O.drop j)) (by rfl) (HD.out.below hb5) (ints_one _) (by unfold maxLen; omega) (by omega) hb5.size ?_
        intro v6 w6 ho6 hg6 hl6
        have hb6 := hb5.grown hg6 hb5.size (fun q hq => (ho5.lt q hq).1)
        have hsz6 := hb6.size
        obtain ⟨A9, c9, rfl, hc9⟩ := own_form ho6
        clear hg6 hl6
        refine hK.out _ _ ((hb6.cell (by rw [block_of_add]; exact hadX)).trans ceX) (fun hHeld => ?_)
        clear hK K
        try simp only [Act.put, sA, sB, sC, sD, sE, sF]
        refine tk (i := 21) (v := ?_) rfl (Or.inl ⟨by rfl, ?_⟩) ?_
        rotate_left
        ·intro X9 hSw; (try simp only [sD, sE, sF]); first | (go_simp; done) | (go_simp; with_reducible rfl)
        try simp only [Act.put, sA, sB, sC, sD, sE, sF]
        refine tk (i := 22) (v := ?_) rfl (Or.inl ⟨by rfl, ?_⟩) ?_
        rotate_left
        ·intro X9 hSw; (try simp only [sD, sE, sF]); first | (go_simp; done) | (go_simp; with_reducible rfl)
        try simp only [Act.put, sA, sB, sC, sD, sE, sF]
        refine wpAnyH_ready (rs := [23]) (by kernel_rfl) (by simp) (AllReadyH.cons rfl (fun K hK => ?_) (AllReadyH.nil))
        have g9 := (hb6.block x3 hxX).trans h3X
        have cl7 := (hb6.cell (p := ⟨x3, 0, none⟩) (show x3 < X.heap.size from hxX)).trans cX
        have fl7 : w6.frozen? ⟨x3, 0, none⟩ = false := Lib.frozen_of_heap g9 0
        try simp only [sD, sE, sF]
        go_simp
        refine hK.out _ _ ((World.cell?_setCell_other _ _ _ _ (by intro e; have := congrArg Addr.block e; rw [block_of_add] at this; first | exact hne3 this | exact hne3 this.symm)).trans ((hb6.cell (by rw [block_of_add]; exact hadX)).trans ceX)) (fun hHeld => ?_)
        clear hK K
        try simp only [Act.put, sA, sB, sC, sD, sE, sF]
        refine wpAnyH_done (by kernel_rfl) ?_ _
        have HROW9 : w6.ownsRow X.heap.size 3 1 (.slice A9 (j + 1 + (m - j)) c9) (j + 1 + (m - j)) (ints (ins8 O z)) := by
         have e : ints (ins8 O z) = ints (O.take j) ++ [.int .i64 z] ++ ints (O.drop j) := by rw [HIN.out]; simp [ints]
         rw [e]
         exact ho6
        have HM9 := Lib.hid (mv_set x3 0 (.slice A9 (j + 1 + (m - j)) c9) w6)
        have HI9 : Hid (InAt x3 (.slice A9 (j + 1 + (m - j)) c9) (ins8 O z) (w6.setCell ⟨x3, 0, none⟩ (.slice A9 (j + 1 + (m - j)) c9))) := (in_of_own HROW9 HIL.out hxX).mvx HM9.out
        have HG9 : Hid ((w6.setCell ⟨x3, 0, none⟩ (.slice A9 (j + 1 + (m - j)) c9)).heap[x3]? = some (.cells #[(.slice A9 (j + 1 + (m - j)) c9)] 34 (0, 0))) := Blk.set_ (show Blk _ x3 34 _ from (hb6.block x3 hxX).trans h3X) 0 _
        have HB9 : Hid (Below w.heap.size w (w6.setCell ⟨x3, 0, none⟩ (.slice A9 (j + 1 + (m - j)) c9))) := (HXW.out.trans (hb6.mono HXW.out.size)).trans (HM9.out.below (fun q hq => by simp at hq; omega) (by have := HXW.out.size; have := hb6.size; omega))
        have HF9 : Hid (fold8 L (l.take (k + 1)) = ins8 O z) := by show _ = _; rw [fold8_step HZK.out, HF.out]
        clear HROW9 ho6 cX h3X ceX
        go_wp2
        all_goals
         go_roundw
         case rel => exact ⟨k + 1, ins8 O z, _, hlt, by go_num, HF9.out, HDY2.out, HG9.out, HI9.out, HB9.out⟩
         case measure => simp [intOf]; omega
      ·have cl2 := (hb1.cell (p := ⟨x3, 0, none⟩) (show x3 < X.heap.size from hxX)).trans cX
       try simp only [sD, sE, sF]
       go_simp
       refine hK.out _ _ ((hb1.cell (by rw [block_of_add]; exact hadX)).trans ceX) (fun hHeld => ?_)
       clear hK K
       try simp only [Act.put, sA, sB, sC, sD, sE, sF]
       refine tk (i := 19) (v := ?_) rfl (Or.inl ⟨by rfl, ?_⟩) ?_
       rotate_left
       ·intro X9 hSw; (try simp only [sD, sE, sF]); first | (go_simp; done) | (go_simp; with_reducible rfl)
       try simp only [Act.put, sA, sB, sC, sD, sE, sF]
       refine wpAnyH_ready (rs := [4]) (by kernel_rfl) (by simp) (AllReadyH.cons rfl (fun K hK => ?_) (AllReadyH.nil))
       have cl3 := (hb1.cell (p := ⟨x3, 0, none⟩) (show x3 < X.heap.size from hxX)).trans cX
       try simp only [sD, sE, sF]
       go_simp
       refine hK.out _ _ ((hb1.cell (by rw [block_of_add]; exact hadX)).trans ceX) (fun hHeld => ?_)
       clear hK K
       try simp only [Act.put, sA, sB, sC, sD, sE, sF]
       refine tk (i := 6) (v := ?_) rfl (Or.inl ⟨by rfl, ?_⟩) ?_
       rotate_left
       ·intro X9 hSw; (try simp only [sD, sE, sF]); first | (go_simp; done) | (go_simp; with_reducible rfl)
       try simp only [Act.put, sA, sB, sC, sD, sE, sF]
       refine wpAnyH_ready (rs := [7]) (by kernel_rfl) (by simp) (AllReadyH.cons rfl (fun K hK => ?_) (AllReadyH.nil))
       refine step_append_any ((X.drew.alloc (.cells #[.int .i64 z] 3))) rfl (.const (.slice none 0 0)) (.tmp 62) 22 rfl X.heap.size 3 i0 z0 1 8 Tryz.underlying22 hinf hz0 hz1 hz2 hz3 (by decide) (.slice none 0 0) 0 [] (by rfl) (World.ownsRow_nil _ _ _ _) X.heap.size Ao j _ (ints (O.take j)) (by rfl) (HP.out.below hb1) (ints_one _) (by unfold maxLen; omega) (by omega) hb1.size ?_
       intro v4 w4 ho4 hg4 hl4
       rw [Nat.zero_add, List.nil_append] at ho4
       have hb4 := hb1.grown hg4 hb1.size (fun q hq => by simp [Value.ownBlock] at hq)
       have hsz4 := hb4.size
       have hn4 := hn1.grown hg4 (by simp) (by simp [Value.ownBlock])
       clear hg4 hl4
       refine hK.out _ _ ((hb4.cell (by rw [block_of_add]; exact hadX)).trans ceX) (fun hHeld => ?_)
       clear hK K
       try simp only [Act.put, sA, sB, sC, sD, sE, sF]
       refine wpAnyH_ready (rs := [13]) (by kernel_rfl) (by simp) (AllReadyH.cons rfl (fun K hK => ?_) (AllReadyH.nil))
       refine step_append_any (w4) rfl (.tmp 63) (.tmp 68) 22 rfl X.heap.size 3 i0 z0 1 8 Tryz.underlying22 hinf hz0 hz1 hz2 hz3 (by decide) v4 j (ints (O.take j)) (by rfl) ho4 (X.heap.size + 1) (some ⟨X.heap.size, 0, none⟩) 1 1 [.int .i64 z] (by rfl) hn4 (ints_one [z]) (by unfold maxLen; omega) (by omega) hb4.size ?_
       intro v5 w5 ho5 hg5 hl5
       have hb5 := hb4.grown hg5 hb4.size (fun q hq => (ho4.lt q hq).1)
       have hsz5 := hb5.size
       clear hg5 hl5
       refine hK.out _ _ ((hb5.cell (by rw [block_of_add]; exact hadX)).trans ceX) (fun hHeld => ?_)
       clear hK K
       try simp only [Act.put, sA, sB, sC, sD, sE, sF]
       refine wpAnyH_ready (rs := [20]) (by kernel_rfl) (by simp) (AllReadyH.cons rfl (fun K hK => ?_) (AllReadyH.nil))
       refine step_append_any (w5) rfl (.tmp 69) (.tmp 75) 22 rfl X.heap.size 3 i0 z0 1 8 Tryz.underlying22 hinf hz0 hz1 hz2 hz3 (by decide) v5 (j + 1) (ints (O.take j) ++ [.int .i64 z]) (by rfl) ho5 X.heap.size _ (m - j) _ (ints (O.drop j)) (by rfl) (HD.out.below hb5) (ints_one _) (by unfold maxLen; omega) (by omega) hb5.size ?_
       intro v6 w6 ho6 hg6 hl6
       have hb6 := hb5.grown hg6 hb5.size (fun q hq => (ho5.lt q hq).1)
       have hsz6 := hb6.size
       obtain ⟨A9, c9, rfl, hc9⟩ := own_form ho6
       clear hg6 hl6
       refine hK.out _ _ ((hb6.cell (by rw [block_of_add]; exact hadX)).trans ceX) (fun hHeld => ?_)
       clear hK K
       try simp only [Act.put, sA, sB, sC, sD, sE, sF]
       refine tk (i := 21) (v := ?_) rfl (Or.inl ⟨by rfl, ?_⟩) ?_
       rotate_left
       ·intro X9 hSw; (try simp only [sD, sE, sF]); first | (go_simp; done) | (go_simp; with_reducible rfl)
       try simp only [Act.put, sA, sB, sC, sD, sE, sF]
       refine tk (i := 22) (v := ?_) rfl (Or.inl ⟨by rfl, ?_⟩) ?_
       rotate_left
       ·intro X9 hSw; (try simp only [sD, sE, sF]); first | (go_simp; done) | (go_simp; with_reducible rfl)
       try simp only [Act.put, sA, sB, sC, sD, sE, sF]
       refine wpAnyH_ready (rs := [23]) (by kernel_rfl) (by simp) (AllReadyH.cons rfl (fun K hK => ?_) (AllReadyH.nil))
       have g9 := (hb6.block x3 hxX).trans h3X
       have cl7 := (hb6.cell (p := ⟨x3, 0, none⟩) (show x3 < X.heap.size from hxX)).trans cX
       have fl7 : w6.frozen? ⟨x3, 0, none⟩ = false := Lib.frozen_of_heap g9 0
       try simp only [sD, sE, sF]
       go_simp
       refine hK.out _ _ ((World.cell?_setCell_other _ _ _ _ (by intro e; have := congrArg Addr.block e; rw [block_of_add] at this; first | exact hne3 this | exact hne3 this.symm)).trans ((hb6.cell (by rw [block_of_add]; exact hadX)).trans ceX)) (fun hHeld => ?_)
       clear hK K
       try simp only [Act.put, sA, sB, sC, sD, sE, sF]
       refine wpAnyH_done (by kernel_rfl) ?_ _
       have HROW9 : w6.ownsRow X.heap.size 3 1 (.slice A9 (j + 1 + (m - j)) c9) (j + 1 + (m - j)) (ints (ins8 O z)) := by
        have e : ints (ins8 O z) = ints (O.take j) ++ [.int .i64 z] ++ ints (O.drop j) := by rw [HIN.out]; simp [ints]
        rw [e]
        exact ho6
       have HM9 := Lib.hid (mv_set x3 0 (.slice A9 (j + 1 + (m - j)) c9) w6)
       have HI9 : Hid (InAt x3 (.slice A9 (j + 1 + (m - j)) c9) (ins8 O z) (w6.setCell ⟨x3, 0, none⟩ (.slice A9 (j + 1 + (m - j)) c9))) := (in_of_own HROW9 HIL.out hxX).mvx HM9.out
       have HG9 : Hid ((w6.setCell ⟨x3, 0, none⟩ (.slice A9 (j + 1 + (m - j)) c9)).heap[x3]? = some (.cells #[(.slice A9 (j + 1 + (m - j)) c9)] 34 (0, 0))) := Blk.set_ (show Blk _ x3 34 _ from (hb6.block x3 hxX).trans h3X) 0 _
       have HB9 : Hid (Below w.heap.size w (w6.setCell ⟨x3, 0, none⟩ (.slice A9 (j + 1 + (m - j)) c9))) := (HXW.out.trans (hb6.mono HXW.out.size)).trans (HM9.out.below (fun q hq => by simp at hq; omega) (by have := HXW.out.size; have := hb6.size; omega))
       have HF9 : Hid (fold8 L (l.take (k + 1)) = ins8 O z) := by show _ = _; rw [fold8_step HZK.out, HF.out]
       clear HROW9 ho6 cX h3X ceX
       go_wp2
       all_goals
        go_roundw
        case rel => exact ⟨k + 1, ins8 O z, _, hlt, by go_num, HF9.out, HDY2.out, HG9.out, HI9.out, HB9.out⟩
        case measure => simp [intOf]; omega
     ·have cl1 := (hb0.cell (p := ⟨x3, 0, none⟩) (show x3 < X.heap.size from hxX)).trans cX
      try simp only [sD, sE, sF]
      go_simp
      refine hK.out _ _ ((hb0.cell (by rw [block_of_add]; exact hadX)).trans ceX) (fun hHeld => ?_)
      clear hK K
      try simp only [Act.put, sA, sB, sC, sD, sE, sF]
      refine tk (i := 19) (v := ?_) rfl (Or.inl ⟨by rfl, ?_⟩) ?_
      rotate_left
      ·intro X9 hSw; (try simp only [sD, sE, sF]); first | (go_simp; done) | (go_simp; with_reducible rfl)
      try simp only [Act.put, sA, sB, sC, sD, sE, sF]
      refine wpAnyH_ready (rs := [4, 12]) (by kernel_rfl) (by simp) (AllReadyH.cons rfl (fun K hK => ?_) (AllReadyH.cons rfl (fun K hK => ?_) (AllReadyH.nil)))
      ·have cl2 := (hb0.cell (p := ⟨x3, 0, none⟩) (show x3 < X.heap.size from hxX)).trans cX
       try simp only [sD, sE, sF]
       go_simp
       refine hK.out _ _ ((hb0.cell (by rw [block_of_add]; exact hadX)).trans ceX) (fun hHeld => ?_)
       clear hK K
       try simp only [Act.put, sA, sB, sC, sD, sE, sF]
       refine tk (i := 6) (v := ?_) rfl (Or.inl ⟨by rfl, ?_⟩) ?_
       rotate_left
       ·intro X9 hSw; (try simp only [sD, sE, sF]); first | (go_simp; done) | (go_simp; with_reducible rfl)
       try simp only [Act.put, sA, sB, sC, sD, sE, sF]
       refine wpAnyH_ready (rs := [7, 12]) (by kernel_rfl) (by simp) (AllReadyH.cons rfl (fun K hK => ?_) (AllReadyH.cons rfl (fun K hK => ?_) (AllReadyH.nil)))
       ·refine step_append_any (X.drew) rfl (.const (.slice none 0 0)) (.tmp 62) 22 rfl X.heap.size 3 i0 z0 1 8 Tryz.underlying22 hinf hz0 hz1 hz2 hz3 (by decide) (.slice none 0 0) 0 [] (by rfl) (World.ownsRow_nil _ _ _ _) X.heap.size Ao j _ (ints (O.take j)) (by rfl) (HP.out.below hb0) (ints_one _) (by unfold maxLen; omega) (by omega) hb0.size ?_
        intro v3 w3 ho3 hg3 hl3
        rw [Nat.zero_add, List.nil_append] at ho3
        have hb3 := hb0.grown hg3 hb0.size (fun q hq => by simp [Value.ownBlock] at hq)
        have hsz3 := hb3.size
        clear hg3 hl3
        refine hK.out _ _ ((hb3.cell (by rw [block_of_add]; exact hadX)).trans ceX) (fun hHeld => ?_)
        clear hK K
        try simp only [Act.put, sA, sB, sC, sD, sE, sF]
        refine wpAnyH_ready (rs := [12]) (by kernel_rfl) (by simp) (AllReadyH.cons rfl (fun K hK => ?_) (AllReadyH.nil))
        have hb4 := hb3.alloc hb3.size (.cells #[.int .i64 z] 3)
        try simp only [sD, sE, sF]
        go_simp
        refine hK.out _ _ ((hb4.cell (by rw [block_of_add]; exact hadX)).trans ceX) (fun hHeld => ?_)
        clear hK K
        try simp only [Act.put, sA, sB, sC, sD, sE, sF]
        have hsz4 := hb4.size
        have hn4 : Reads (w3.alloc (.cells #[.int .i64 z] 3)) (w3.heap.size + 1) 1 (some ⟨w3.heap.size, 0, none⟩) 1 [.int .i64 z] := reads_newN w3 [.int .i64 z] 3 #[.int .i64 z] rfl (N := 1) rfl
        have ho4 := ho3.alloc (.cells #[.int .i64 z] 3)
        refine wpAnyH_ready (rs := [13]) (by kernel_rfl) (by simp) (AllReadyH.cons rfl (fun K hK => ?_) (AllReadyH.nil))
        refine step_append_any ((w3.alloc (.cells #[.int .i64 z] 3))) rfl (.tmp 63) (.tmp 68) 22 rfl X.heap.size 3 i0 z0 1 8 Tryz.underlying22 hinf hz0 hz1 hz2 hz3 (by decide) v3 j (ints (O.take j)) (by rfl) ho4 (w3.heap.size + 1) (some ⟨w3.heap.size, 0, none⟩) 1 1 [.int .i64 z] (by rfl) hn4 (ints_one [z]) (by unfold maxLen; omega) (by omega) hb4.size ?_
        intro v5 w5 ho5 hg5 hl5
        have hb5 := hb4.grown hg5 hb4.size (fun q hq => (ho4.lt q hq).1)
        have hsz5 := hb5.size
        clear hg5 hl5
        refine hK.out _ _ ((hb5.cell (by rw [block_of_add]; exact hadX)).trans ceX) (fun hHeld => ?_)
        clear hK K
        try simp only [Act.put, sA, sB, sC, sD, sE, sF]
        refine wpAnyH_ready (rs := [20]) (by kernel_rfl) (by simp) (AllReadyH.cons rfl (fun K hK => ?_) (AllReadyH.nil))
        refine step_append_any (w5) rfl (.tmp 69) (.tmp 75) 22 rfl X.heap.size 3 i0 z0 1 8 Tryz.underlying22 hinf hz0 hz1 hz2 hz3 (by decide) v5 (j + 1) (ints (O.take j) ++ [.int .i64 z]) (by rfl) ho5 X.heap.size _ (m - j) _ (ints (O.drop j)) (by rfl) (HD.out.below hb5) (ints_one _) (by unfold maxLen; omega) (by omega) hb5.size ?_
        intro v6 w6 ho6 hg6 hl6
        have hb6 := hb5.grown hg6 hb5.size (fun q hq => (ho5.lt q hq).1)
        have hsz6 := hb6.size
        obtain ⟨A9, c9, rfl, hc9⟩ := own_form ho6
        clear hg6 hl6
        refine hK.out _ _ ((hb6.cell (by rw [block_of_add]; exact hadX)).trans ceX) (fun hHeld => ?_)
        clear hK K
        try simp only [Act.put, sA, sB, sC, sD, sE, sF]
        refine tk (i := 21) (v := ?_) rfl (Or.inl ⟨by rfl, ?_⟩) ?_
        rotate_left
        ·intro X9 hSw; (try simp only [sD, sE, sF]); first | (go_simp; done) | (go_simp; with_reducible rfl)
        try simp only [Act.put, sA, sB, sC, sD, sE, sF]
        refine tk (i := 22) (v := ?_) rfl (Or.inl ⟨by rfl, ?_⟩) ?_
        rotate_left
        ·intro X9 hSw; (try simp only [sD, sE, sF]); first | (go_simp; done) | (go_simp; with_reducible rfl)
        try simp only [Act.put, sA, sB, sC, sD, sE, sF]
        refine wpAnyH_ready (rs := [23]) (by kernel_rfl) (by simp) (AllReadyH.cons rfl (fun K hK => ?_) (AllReadyH.nil))
        have g9 := (hb6.block x3 hxX).trans h3X
        have cl7 := (hb6.cell (p := ⟨x3, 0, none⟩) (show x3 < X.heap.size from hxX)).trans cX
        have fl7 : w6.frozen? ⟨x3, 0, none⟩ = false := Lib.frozen_of_heap g9 0
        try simp only [sD, sE, sF]
        go_simp
        refine hK.out _ _ ((World.cell?_setCell_other _ _ _ _ (by intro e; have := congrArg Addr.block e; rw [block_of_add] at this; first | exact hne3 this | exact hne3 this.symm)).trans ((hb6.cell (by rw [block_of_add]; exact hadX)).trans ceX)) (fun hHeld => ?_)
        clear hK K
        try simp only [Act.put, sA, sB, sC, sD, sE, sF]
        refine wpAnyH_done (by kernel_rfl) ?_ _
        have HROW9 : w6.ownsRow X.heap.size 3 1 (.slice A9 (j + 1 + (m - j)) c9) (j + 1 + (m - j)) (ints (ins8 O z)) := by
         have e : ints (ins8 O z) = ints (O.take j) ++ [.int .i64 z] ++ ints (O.drop j) := by rw [HIN.out]; simp [ints]
         rw [e]
         exact ho6
        have HM9 := Lib.hid (mv_set x3 0 (.slice A9 (j + 1 + (m - j)) c9) w6)
        have HI9 : Hid (InAt x3 (.slice A9 (j + 1 + (m - j)) c9) (ins8 O z) (w6.setCell ⟨x3, 0, none⟩ (.slice A9 (j + 1 + (m - j)) c9))) := (in_of_own HROW9 HIL.out hxX).mvx HM9.out
        have HG9 : Hid ((w6.setCell ⟨x3, 0, none⟩ (.slice A9 (j + 1 + (m - j)) c9)).heap[x3]? = some (.cells #[(.slice A9 (j + 1 + (m - j)) c9)] 34 (0, 0))) := Blk.set_ (show Blk _ x3 34 _ from (hb6.block x3 hxX).trans h3X) 0 _
        have HB9 : Hid (Below w.heap.size w (w6.setCell ⟨x3, 0, none⟩ (.slice A9 (j + 1 + (m - j)) c9))) := (HXW.out.trans (hb6.mono HXW.out.size)).trans (HM9.out.below (fun q hq => by simp at hq; omega) (by have := HXW.out.size; have := hb6.size; omega))
        have HF9 : Hid (fold8 L (l.take (k + 1)) = ins8 O z) := by show _ = _; rw [fold8_step HZK.out, HF.out]
        clear HROW9 ho6 cX h3X ceX
        go_wp2
        all_goals
         go_roundw
         case rel => exact ⟨k + 1, ins8 O z, _, hlt, by go_num, HF9.out, HDY2.out, HG9.out, HI9.out, HB9.out⟩
         case measure => simp [intOf]; omega
       ·have hb3 := hb0.alloc hb0.size (.cells #[.int .i64 z] 3)
        try simp only [sD, sE, sF]
        go_simp
        refine hK.out _ _ ((hb3.cell (by rw [block_of_add]; exact hadX)).trans ceX) (fun hHeld => ?_)
        clear hK K
        try simp only [Act.put, sA, sB, sC, sD, sE, sF]
        have hsz3 := hb3.size
        have hn3 : Reads (X.drew.alloc (.cells #[.int .i64 z] 3)) (X.heap.size + 1) 1 (some ⟨X.heap.size, 0, none⟩) 1 [.int .i64 z] := reads_newN X.drew [.int .i64 z] 3 #[.int .i64 z] rfl (N := 1) rfl
        refine wpAnyH_ready (rs := [7]) (by kernel_rfl) (by simp) (AllReadyH.cons rfl (fun K hK => ?_) (AllReadyH.nil))
        refine step_append_any ((X.drew.alloc (.cells #[.int .i64 z] 3))) rfl (.const (.slice none 0 0)) (.tmp 62) 22 rfl X.heap.size 3 i0 z0 1 8 Tryz.underlying22 hinf hz0 hz1 hz2 hz3 (by decide) (.slice none 0 0) 0 [] (by rfl) (World.ownsRow_nil _ _ _ _) X.heap.size Ao j _ (ints (O.take j)) (by rfl) (HP.out.below hb3) (ints_one _) (by unfold maxLen; omega) (by omega) hb3.size ?_
        intro v4 w4 ho4 hg4 hl4
        rw [Nat.zero_add, List.nil_append] at ho4
        have hb4 := hb3.grown hg4 hb3.size (fun q hq => by simp [Value.ownBlock] at hq)
        have hsz4 := hb4.size
        have hn4 := hn3.grown hg4 (by simp) (by simp [Value.ownBlock])
        clear hg4 hl4
        refine hK.out _ _ ((hb4.cell (by rw [block_of_add]; exact hadX)).trans ceX) (fun hHeld => ?_)
        clear hK K
        try simp only [Act.put, sA, sB, sC, sD, sE, sF]
        refine wpAnyH_ready (rs := [13]) (by kernel_rfl) (by simp) (AllReadyH.cons rfl (fun K hK => ?_) (AllReadyH.nil))
        refine step_append_any (w4) rfl (.tmp 63) (.tmp 68) 22 rfl X.heap.size 3 i0 z0 1 8 Tryz.underlying22 hinf hz0 hz1 hz2 hz3 (by decide) v4 j (ints (O.take j)) (by rfl) ho4 (X.heap.size + 1) (some ⟨X.heap.size, 0, none⟩) 1 1 [.int .i64 z] (by rfl) hn4 (ints_one [z]) (by unfold maxLen; omega) (by omega) hb4.size ?_
        intro v5 w5 ho5 hg5 hl5
        have hb5 := hb4.grown hg5 hb4.size (fun q hq => (ho4.lt q hq).1)
        have hsz5 := hb5.size
        clear hg5 hl5
        refine hK.out _ _ ((hb5.cell (by rw [block_of_add]; exact hadX)).trans ceX) (fun hHeld => ?_)
        clear hK K
        try simp only [Act.put, sA, sB, sC, sD, sE, sF]
        refine wpAnyH_ready (rs := [20]) (by kernel_rfl) (by simp) (AllReadyH.cons rfl (fun K hK => ?_) (AllReadyH.nil))
        refine step_append_any (w5) rfl (.tmp 69) (.tmp 75) 22 rfl X.heap.size 3 i0 z0 1 8 Tryz.underlying22 hinf hz0 hz1 hz2 hz3 (by decide) v5 (j + 1) (ints (O.take j) ++ [.int .i64 z]) (by rfl) ho5 X.heap.size _ (m - j) _ (ints (O.drop j)) (by rfl) (HD.out.below hb5) (ints_one _) (by unfold maxLen; omega) (by omega) hb5.size ?_
        intro v6 w6 ho6 hg6 hl6
        have hb6 := hb5.grown hg6 hb5.size (fun q hq => (ho5.lt q hq).1)
        have hsz6 := hb6.size
        obtain ⟨A9, c9, rfl, hc9⟩ := own_form ho6
        clear hg6 hl6
        refine hK.out _ _ ((hb6.cell (by rw [block_of_add]; exact hadX)).trans ceX) (fun hHeld => ?_)
        clear hK K
        try simp only [Act.put, sA, sB, sC, sD, sE, sF]
        refine tk (i := 21) (v := ?_) rfl (Or.inl ⟨by rfl, ?_⟩) ?_
        rotate_left
        ·intro X9 hSw; (try simp only [sD, sE, sF]); first | (go_simp; done) | (go_simp; with_reducible rfl)
        try simp only [Act.put, sA, sB, sC, sD, sE, sF]
        refine tk (i := 22) (v := ?_) rfl (Or.inl ⟨by rfl, ?_⟩) ?_
        rotate_left
        ·intro X9 hSw; (try simp only [sD, sE, sF]); first | (go_simp; done) | (go_simp; with_reducible rfl)
        try simp only [Act.put, sA, sB, sC, sD, sE, sF]
        refine wpAnyH_ready (rs := [23]) (by kernel_rfl) (by simp) (AllReadyH.cons rfl (fun K hK => ?_) (AllReadyH.nil))
        have g9 := (hb6.block x3 hxX).trans h3X
        have cl7 := (hb6.cell (p := ⟨x3, 0, none⟩) (show x3 < X.heap.size from hxX)).trans cX
        have fl7 : w6.frozen? ⟨x3, 0, none⟩ = false := Lib.frozen_of_heap g9 0
        try simp only [sD, sE, sF]
        go_simp
        refine hK.out _ _ ((World.cell?_setCell_other _ _ _ _ (by intro e; have := congrArg Addr.block e; rw [block_of_add] at this; first | exact hne3 this | exact hne3 this.symm)).trans ((hb6.cell (by rw [block_of_add]; exact hadX)).trans ceX)) (fun hHeld => ?_)
        clear hK K
        try simp only [Act.put, sA, sB, sC, sD, sE, sF]
        refine wpAnyH_done (by kernel_rfl) ?_ _
        have HROW9 : w6.ownsRow X.heap.size 3 1 (.slice A9 (j + 1 + (m - j)) c9) (j + 1 + (m - j)) (ints (ins8 O z)) := by
         have e : ints (ins8 O z) = ints (O.take j) ++ [.int .i64 z] ++ ints (O.drop j) := by rw [HIN.out]; simp [ints]
         rw [e]
         exact ho6
        have HM9 := Lib.hid (mv_set x3 0 (.slice A9 (j + 1 + (m - j)) c9) w6)
        have HI9 : Hid (InAt x3 (.slice A9 (j + 1 + (m - j)) c9) (ins8 O z) (w6.setCell ⟨x3, 0, none⟩ (.slice A9 (j + 1 + (m - j)) c9))) := (in_of_own HROW9 HIL.out hxX).mvx HM9.out
        have HG9 : Hid ((w6.setCell ⟨x3, 0, none⟩ (.slice A9 (j + 1 + (m - j)) c9)).heap[x3]? = some (.cells #[(.slice A9 (j + 1 + (m - j)) c9)] 34 (0, 0))) := Blk.set_ (show Blk _ x3 34 _ from (hb6.block x3 hxX).trans h3X) 0 _
        have HB9 : Hid (Below w.heap.size w (w6.setCell ⟨x3, 0, none⟩ (.slice A9 (j + 1 + (m - j)) c9))) := (HXW.out.trans (hb6.mono HXW.out.size)).trans (HM9.out.below (fun q hq => by simp at hq; omega) (by have := HXW.out.size; have := hb6.size; omega))
        have HF9 : Hid (fold8 L (l.take (k + 1)) = ins8 O z) := by show _ = _; rw [fold8_step HZK.out, HF.out]
        clear HROW9 ho6 cX h3X ceX
        go_wp2
        all_goals
         go_roundw
         case rel => exact ⟨k + 1, ins8 O z, _, hlt, by go_num, HF9.out, HDY2.out, HG9.out, HI9.out, HB9.out⟩
         case measure => simp [intOf]; omega
      ·have hb2 := hb0.alloc hb0.size (.cells #[.int .i64 z] 3)
       try simp only [sD, sE, sF]
       go_simp
       refine hK.out _ _ ((hb2.cell (by rw [block_of_add]; exact hadX)).trans ceX) (fun hHeld => ?_)
       clear hK K
       try simp only [Act.put, sA, sB, sC, sD, sE, sF]
       have hsz2 := hb2.size
       have hn2 : Reads (X.drew.alloc (.cells #[.int .i64 z] 3)) (X.heap.size + 1) 1 (some ⟨X.heap.size, 0, none⟩) 1 [.int .i64 z] := reads_newN X.drew [.int .i64 z] 3 #[.int .i64 z] rfl (N := 1) rfl
       refine wpAnyH_ready (rs := [4]) (by kernel_rfl) (by simp) (AllReadyH.cons rfl (fun K hK => ?_) (AllReadyH.nil))
       have cl3 := (hb2.cell (p := ⟨x3, 0, none⟩) (show x3 < X.heap.size from hxX)).trans cX
       try simp only [sD, sE, sF]
       go_simp
       refine hK.out _ _ ((hb2.cell (by rw [block_of_add]; exact hadX)).trans ceX) (fun hHeld => ?_)
       clear hK K
       try simp only [Act.put, sA, sB, sC, sD, sE, sF]
       refine tk (i := 6) (v := ?_) rfl (Or.inl ⟨by rfl, ?_⟩) ?_
       rotate_left
       ·intro X9 hSw; (try simp only [sD, sE, sF]); first | (go_simp; done) | (go_simp; with_reducible rfl)
       try simp only [Act.put, sA, sB, sC, sD, sE, sF]
       refine wpAnyH_ready (rs := [7]) (by kernel_rfl) (by simp) (AllReadyH.cons rfl (fun K hK => ?_) (AllReadyH.nil))
       refine step_append_any ((X.drew.alloc (.cells #[.int .i64 z] 3))) rfl (.const (.slice none 0 0)) (.tmp 62) 22 rfl X.heap.size 3 i0 z0 1 8 Tryz.underlying22 hinf hz0 hz1 hz2 hz3 (by decide) (.slice none 0 0) 0 [] (by rfl) (World.ownsRow_nil _ _ _ _) X.heap.size Ao j _ (ints (O.take j)) (by rfl) (HP.out.below hb2) (ints_one _) (by unfold maxLen; omega) (by omega) hb2.size ?_
       intro v4 w4 ho4 hg4 hl4
       rw [Nat.zero_add, List.nil_append] at ho4
       have hb4 := hb2.grown hg4 hb2.size (fun q hq => by simp [Value.ownBlock] at hq)
       have hsz4 := hb4.size
       have hn4 := hn2.grown hg4 (by simp) (by simp [Value.ownBlock])
       clear hg4 hl4
       refine hK.out _ _ ((hb4.cell (by rw [block_of_add]; exact hadX)).trans ceX) (fun hHeld => ?_)
       clear hK K
       try simp only [Act.put, sA, sB, sC, sD, sE, sF]
       refine wpAnyH_ready (rs := [13]) (by kernel_rfl) (by simp) (AllReadyH.cons rfl (fun K hK => ?_) (AllReadyH.nil))
       refine step_append_any (w4) rfl (.tmp 63) (.tmp 68) 22 rfl X.heap.size 3 i0 z0 1 8 Tryz.underlying22 hinf hz0 hz1 hz2 hz3 (by decide) v4 j (ints (O.take j)) (by rfl) ho4 (X.heap.size + 1) (some ⟨X.heap.size, 0, none⟩) 1 1 [.int .i64 z] (by rfl) hn4 (ints_one [z]) (by unfold maxLen; omega) (by omega) hb4.size ?_
       intro v5 w5 ho5 hg5 hl5
       have hb5 := hb4.grown hg5 hb4.size (fun q hq => (ho4.lt q hq).1)
       have hsz5 := hb5.size
       clear hg5 hl5
       refine hK.out _ _ ((hb5.cell (by rw [block_of_add]; exact hadX)).trans ceX) (fun hHeld => ?_)
       clear hK K
       try simp only [Act.put, sA, sB, sC, sD, sE, sF]
       refine wpAnyH_ready (rs := [20]) (by kernel_rfl) (by simp) (AllReadyH.cons rfl (fun K hK => ?_) (AllReadyH.nil))
       refine step_append_any (w5) rfl (.tmp 69) (.tmp 75) 22 rfl X.heap.size 3 i0 z0 1 8 Tryz.underlying22 hinf hz0 hz1 hz2 hz3 (by decide) v5 (j + 1) (ints (O.take j) ++ [.int .i64 z]) (by rfl) ho5 X.heap.size _ (m - j) _ (ints (O.drop j)) (by rfl) (HD.out.below hb5) (ints_one _) (by unfold maxLen; omega) (by omega) hb5.size ?_
       intro v6 w6 ho6 hg6 hl6
       have hb6 := hb5.grown hg6 hb5.size (fun q hq => (ho5.lt q hq).1)
       have hsz6 := hb6.size
       obtain ⟨A9, c9, rfl, hc9⟩ := own_form ho6
       clear hg6 hl6
       refine hK.out _ _ ((hb6.cell (by rw [block_of_add]; exact hadX)).trans ceX) (fun hHeld => ?_)
       clear hK K
       try simp only [Act.put, sA, sB, sC, sD, sE, sF]
       refine tk (i := 21) (v := ?_) rfl (Or.inl ⟨by rfl, ?_⟩) ?_
       rotate_left
       ·intro X9 hSw; (try simp only [sD, sE, sF]); first | (go_simp; done) | (go_simp; with_reducible rfl)
       try simp only [Act.put, sA, sB, sC, sD, sE, sF]
       refine tk (i := 22) (v := ?_) rfl (Or.inl ⟨by rfl, ?_⟩) ?_
       rotate_left
       ·intro X9 hSw; (try simp only [sD, sE, sF]); first | (go_simp; done) | (go_simp; with_reducible rfl)
       try simp only [Act.put, sA, sB, sC, sD, sE, sF]
       refine wpAnyH_ready (rs := [23]) (by kernel_rfl) (by simp) (AllReadyH.cons rfl (fun K hK => ?_) (AllReadyH.nil))
       have g9 := (hb6.block x3 hxX).trans h3X
       have cl7 := (hb6.cell (p := ⟨x3, 0, none⟩) (show x3 < X.heap.size from hxX)).trans cX
       have fl7 : w6.frozen? ⟨x3, 0, none⟩ = false := Lib.frozen_of_heap g9 0
       try simp only [sD, sE, sF]
       go_simp
       refine hK.out _ _ ((World.cell?_setCell_other _ _ _ _ (by intro e; have := congrArg Addr.block e; rw [block_of_add] at this; first | exact hne3 this | exact hne3 this.symm)).trans ((hb6.cell (by rw [block_of_add]; exact hadX)).trans ceX)) (fun hHeld => ?_)
       clear hK K
       try simp only [Act.put, sA, sB, sC, sD, sE, sF]
       refine wpAnyH_done (by kernel_rfl) ?_ _
       have HROW9 : w6.ownsRow X.heap.size 3 1 (.slice A9 (j + 1 + (m - j)) c9) (j + 1 + (m - j)) (ints (ins8 O z)) := by
        have e : ints (ins8 O z) = ints (O.take j) ++ [.int .i64 z] ++ ints (O.drop j) := by rw [HIN.out]; simp [ints]
        rw [e]
        exact ho6
       have HM9 := Lib.hid (mv_set x3 0 (.slice A9 (j + 1 + (m - j)) c9) w6)
       have HI9 : Hid (InAt x3 (.slice A9 (j + 1 + (m - j)) c9) (ins8 O z) (w6.setCell ⟨x3, 0, none⟩ (.slice A9 (j + 1 + (m - j)) c9))) := (in_of_own HROW9 HIL.out hxX).mvx HM9.out
       have HG9 : Hid ((w6.setCell ⟨x3, 0, none⟩ (.slice A9 (j + 1 + (m - j)) c9)).heap[x3]? = some (.cells #[(.slice A9 (j + 1 + (m - j)) c9)] 34 (0, 0))) := Blk.set_ (show Blk _ x3 34 _ from (hb6.block x3 hxX).trans h3X) 0 _
       have HB9 : Hid (Below w.heap.size w (w6.setCell ⟨x3, 0, none⟩ (.slice A9 (j + 1 + (m - j)) c9))) := (HXW.out.trans (hb6.mono HXW.out.size)).trans (HM9.out.below (fun q hq => by simp at hq; omega) (by have := HXW.out.size; have := hb6.size; omega))
       have HF9 : Hid (fold8 L (l.take (k + 1)) = ins8 O z) := by show _ = _; rw [fold8_step HZK.out, HF.out]
       clear HROW9 ho6 cX h3X ceX
       go_wp2
       all_goals
        go_roundw
        case rel => exact ⟨k + 1, ins8 O z, _, hlt, by go_num, HF9.out, HDY2.out, HG9.out, HI9.out, HB9.out⟩
        case measure => simp [intOf]; omega
    ·have hzO : z ∈ O := of_decide_eq_true HHV.out
     have HF2 : Hid (fold8 L (l.take (k + 1)) = O) := by show _ = _; rw [fold8_step HZK.out, HF.out]; exact if_pos hzO
     clear hzO
     go_wp2
     go_roundw
     case rel => exact ⟨k + 1, O, _, hlt, by go_num, HF2.out, HDY2.out, HXm.out, by have h9 := HI.out; rw [HM.out] at h9; exact h9, HB.out⟩
     case measure => simp [intOf]; omega
  ·have hkn : k = n := by omega
   have hfl : fold8 L l = O := by
    have h1 := HF.out
    rw [List.take_of_length_le (by rw [HN.out]; omega)] at h1
    exact h1
   have hall : l.any (fun d => !dayB d) = false := by
    rw [List.any_eq_false]
    intro y hy
    rw [HDY.out y (by rw [List.take_of_length_le (by rw [HN.out]; omega)]; exact hy)]
    decide
   have HFL := Lib.hid hfl; have HALL := Lib.hid hall
   obtain ⟨ul, up, ua, us, f1, f2, f3, f4, f5⟩ := HK.out.below HB.out
   obtain ⟨Bl, dl, rfl, _⟩ := f2
   rw [HLL.out, HNL.out] at f1
   have s0 : wr.cell? ⟨x, 0, none⟩ = some (.slice Bl nl dl) := by rw [Lib.cell_of_heap f1]; rfl
   have o0 : wr.frozen? ⟨x, 0, none⟩ = false := Lib.frozen_of_heap f1 0
   have HF1 := Lib.hid f1; have HF3 := Lib.hid f3; have HF4 := Lib.hid f4; have HF5 := Lib.hid f5
   have HOX : Hid (InAt x (.slice Ao m co) O wr) := by
    refine ⟨Ao, co, by rw [HM.out], by rw [HM.out]; exact hmc, by rw [HM.out]; exact HRO.out, ?_⟩
    rw [HM.out]
    obtain ⟨Ap, cp, rfl, _⟩ := f3
    obtain ⟨Aa, ca, rfl, _⟩ := f4
    obtain ⟨As, cs, rfl, _⟩ := f5
    exact ints_off HRO.out HM.out f1 (by intro z; simp)
   clear hfl hall hkn f1 f3 f4 f5
   by_cases hbig : 300 < m
   ·have HE : Hid (E = 2 ∧ O9 = L) := by
     have h1 : errC8 L l = 2 := by unfold errC8; rw [HALL.out, HFL.out, HM.out]; simp [hbig]
     exact ⟨by rw [← HEO.out, h1], by rw [← HOO.out]; unfold outC8; rw [h1]; exact if_neg (by decide)⟩
    have hbd : decide ((m : Int) > 300) = true := decide_eq_true (by omega)
    go_wp2
    go_ret
    refine ⟨by rw [HE.out.1]; rfl, ?_, mv_of_below HB.out⟩
    rw [HE.out.2, ← HLL.out]
    exact HK.out.below HB.out
   ·have HE : Hid (E = 0 ∧ O9 = O) := by
     have h1 : errC8 L l = 0 := by unfold errC8; rw [HALL.out, HFL.out, HM.out]; simp [hbig]
     exact ⟨by rw [← HEO.out, h1], by rw [← HOO.out]; unfold outC8; rw [h1, if_pos rfl, HFL.out]⟩
    have hbd : decide ((m : Int) > 300) = false := decide_eq_false (by omega)
    have HMW := Lib.hid (mv_set x 0 (.slice Ao m co) wr)
    have HGW := Lib.hid (Blk.set_ (show Blk wr x 39 _ from HF1.out) 0 (.slice Ao m co))
    clear hbig
    go_wp2
    go_ret
    refine ⟨by rw [HE.out.1]; rfl, ?_, (mv_of_below HB.out).trans HMW.out⟩
    rw [HE.out.2]
    exact ⟨_, _, _, _, HGW.out, HOX.out.mvx HMW.out, HF3.out.mvx HMW.out, HF4.out.mvx HMW.out, HF5.out.mvx HMW.out⟩
end Go.Proofs.YtnpkplegeddhcaaGreat
