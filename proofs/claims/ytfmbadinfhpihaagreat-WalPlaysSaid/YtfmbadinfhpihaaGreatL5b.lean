/-
  The document's log (complineref5): OpenLog as a contract.
  Conditions: a disk that agrees with one of the program's; a name that is in memory.
-/
import Derived.Test.YtfmbadinfhpihaaGreatL5a
set_option linter.unusedVariables false
set_option linter.unusedSimpArgs false
namespace Go.Proofs.YtfmbadinfhpihaaGreat
open Go.RowKit Go.Maps
attribute [local go_sem ↓] Go.wp_at_zero Go.wp_at_succ
set_option maxRecDepth 100000

theorem row_obj {w : World} {B sz n : Nat} {e : TypeId} {v : Value} {xs : List Value} (h : w.ownsRow B e sz v n xs) {k : Nat} (hk : v.ownBlock = some k) : ∃ cs fr, w.heap[k]? = some (.cells cs e fr) := by
  rcases h.2 with ⟨rfl, _⟩ | ⟨g', cap, cur, rfl, _, hh, _⟩
  · simp [Value.ownBlock] at hk
  · obtain rfl : g' = k := by simpa [Value.ownBlock] using hk
    exact ⟨_, _, hh⟩
theorem obj_ne {w : World} {k j : Nat} {cs cs' : Array Value} {t t' : TypeId} {fr fr' : Nat × Nat} (h : w.heap[k]? = some (.cells cs t fr)) (h' : w.heap[j]? = some (.cells cs' t' fr')) (ht : t ≠ t') : k ≠ j := fun e => by
  subst e
  rw [h] at h'
  injection h' with h'
  injection h' with _ h2 _
  exact ht h2
/-- The log's blocks are none of its disk's. -/
theorem l5_apart {y x : Nat} {S T : List Nat} {nm : ByteArray} {lg : Lg} {r : D5} {w : World} (h : L5At y x T nm lg w) (hd : D5At x S r w) : ∀ k, k ∈ T → k ∉ S := by
  obtain ⟨v, rfl, h2, h3, h4⟩ := h
  obtain ⟨u, rfl, g2, g3, g4⟩ := hd
  intro k hk hS
  simp only [List.mem_cons, Option.mem_toList] at hk hS
  rcases hk with rfl | hk
  · rcases hS with rfl | hS
    · exact obj_ne h2 g2 (by decide) rfl
    · obtain ⟨cs, fr, e⟩ := row_obj g3 hS
      exact obj_ne h2 e (by decide) rfl
  · obtain ⟨cs, fr, e⟩ := row_obj h3 hk
    rcases hS with rfl | hS
    · exact obj_ne e g2 (by decide) rfl
    · obtain ⟨cs', fr', e'⟩ := row_obj g3 hS
      exact obj_ne e e' (by decide) rfl
theorem L5At.beside {y x : Nat} {S S' T : List Nat} {nm : ByteArray} {lg : Lg} {r : D5} {w w' : World} (h : L5At y x T nm lg w) (hd : D5At x S r w) (hm : Mv S S' w w') : L5At y x T nm lg w' := h.aside hm (l5_apart h hd)
/-- What stands behind the three stores of a good part taken. -/
theorem L5At.put {y x B : Nat} {nm : ByteArray} {w : World} {v0 v : Value} {G : Wal.Gs}
    (hbk : w.heap[y]? = some (.cells #[.pointer (some ⟨x, 0, none⟩), .string nm, v0, .int .i64 0, .int .i64 0, .bool false] 97 (0, 0)))
    (ho : w.ownsRow B 9 1 v G.recs.length (strs (Sm.texts G.recs))) (hy : y < B) :
    L5At y x (y :: v.ownBlock.toList) nm (lgOf G false) (((w.setCell ⟨y, 2, none⟩ v).setCell ⟨y, 3, none⟩ (.int .i64 G.groups)).setCell ⟨y, 4, none⟩ (.int .i64 G.size)) := by
  have hne : v.ownBlock ≠ some y := fun e => by have := (ho.lt y e).1; omega
  have hk : ∀ k, v.ownBlock = some k → k ≠ y := fun k hk e => hne (by rw [hk, e])
  have ho' := own_weak ho (Nat.zero_le B)
  refine ⟨v, rfl, Blk.set_ (Blk.set_ (Blk.set_ (show Blk w y 97 _ from hbk) 2 _) 3 _) 4 _, ?_, hne⟩
  have h9 := own_keep' (own_keep' (own_keep' ho' (fun k h => Below.heap_setCell _ ⟨y, 2, none⟩ v _ (hk k h))) (fun k h => Below.heap_setCell _ ⟨y, 3, none⟩ (.int .i64 G.groups) _ (hk k h))) (fun k h => Below.heap_setCell _ ⟨y, 4, none⟩ (.int .i64 G.size) _ (hk k h))
  rw [show (lgOf G false).recs.length = G.recs.length from texts_len _]
  exact h9
theorem first5_yes {f : D5 → Int × D5} {fs : List (D5 → Int × D5)} {r : D5} (h : (f r).1 = 0) : first5 (f :: fs) r = first5 fs (f r).2 := by
  show (if (f r).1 = 0 then _ else _) = _
  rw [if_pos h]
theorem first5_no {f : D5 → Int × D5} {fs : List (D5 → Int × D5)} {r : D5} (h : (f r).1 ≠ 0) : first5 (f :: fs) r = f r := by
  show (if (f r).1 = 0 then _ else _) = _
  rw [if_neg h]
/-- What OpenLog hands back: a new log, or none. -/
def Log5Back (x B : Nat) (nm : ByteArray) (w' : World) (v : Value) : Option Wal.Gs → Prop
  | none => v = .pointer none
  | some gs => ∃ y T, v = .pointer (some ⟨y, 0, none⟩) ∧ L5At y x T nm (lgOf gs false) w' ∧ ∀ k, k ∈ T → B ≤ k
theorem spare_size (nm : ByteArray) : (spareOf nm).size = nm.size + 1 := by unfold spareOf; rw [ByteArray.size_append]; rfl

set_option maxHeartbeats 16000000 in
theorem openlog_any (x : Nat) (S : List Nat) (nm : ByteArray) (st : Dk) (r : D5) (w : World) (h : D5At x S r w) (ha : Agree5 st r) (hn : nm.size ≤ 1000000) :
    Calls Tryz.prog 31 #[.pointer (some ⟨x, 0, none⟩), .string nm] w fun e w' => ∃ v S', e = .returned (.tuple #[v, .int .i64 (open5 nm r).1]) ∧ Log5Back x w.heap.size nm w' v (open5 nm r).2.2 ∧ D5At x S' (open5 nm r).2.1 w' ∧ Mv S S' w w' := by
  have hlen := ha.len
  have RD := read5_any x S r nm w h (by omega)
  have CR := create5_any x S r nm (by omega) w h ha.ok5
  obtain ⟨E, hE⟩ : ∃ E, (open5 nm r).1 = E := ⟨_, rfl⟩
  obtain ⟨R', hR⟩ : ∃ R', (open5 nm r).2.1 = R' := ⟨_, rfl⟩
  obtain ⟨G', hG⟩ : ∃ G', (open5 nm r).2.2 = G' := ⟨_, rfl⟩
  rw [hE, hR, hG]
  have HER : Hid (open5 nm r = (E, R', G')) := by show _ = _; rw [← hE, ← hR, ← hG]
  obtain ⟨b, hb⟩ : ∃ b, (read5 r nm).1 = b := ⟨_, rfl⟩
  obtain ⟨e0, he0⟩ : ∃ e, (read5 r nm).2 = e := ⟨_, rfl⟩
  have hbz : b.size ≤ 400000 := by
    rw [← hb, ha.read nm]
    unfold readD
    split
    · have := fileAt_le ha.fs.good nm; have := ha.tot; show (fileAt st.fs nm).1.size ≤ _; omega
    · decide
  have hon : e0 = 0 → st.on = true := fun h0 => by
    rw [ha.read nm] at he0
    unfold readD at he0
    by_cases hh : st.on = true
    · exact hh
    · rw [if_neg hh] at he0
      rw [h0] at he0
      cases he0
  rw [hb, he0] at RD
  have HB := Lib.hid hb; have HE0 := Lib.hid he0; have HRD := Lib.hid RD; have HCR := Lib.hid CR; have HK := Lib.hid h; have HA := Lib.hid ha; have HON := Lib.hid hon
  have hnz : 0 ≤ nm.size := Nat.zero_le _
  clear hE hR hG hb he0 RD CR h ha hon
  go_enter Tryz.func31, Tryz.ntmps31
  go_wp2_with fail
  refine HRD.out.mono ?_
  rintro e w0 ⟨rfl, hw0⟩
  obtain rfl : w = w0 := hw0
  clear HRD
  by_cases h7 : e0 = 7
  · have h7b : (e0 == 7) = true := by simp [h7]
    obtain ⟨c1, hc1⟩ : ∃ c, (create5 r nm).1 = c := ⟨_, rfl⟩
    obtain ⟨r1, hr1⟩ : ∃ c, (create5 r nm).2 = c := ⟨_, rfl⟩
    have CR := HCR.out
    rw [hc1, hr1] at CR
    have HC1 := Lib.hid hc1; have HR1 := Lib.hid hr1; have HCR1 := Lib.hid CR; have H7 := Lib.hid h7
    clear hc1 hr1 CR HCR h7
    go_wp2_with fail
    refine HCR1.out.mono ?_
    rintro e w1 ⟨S1, rfl, hk1, hm1⟩
    have HK1 := Lib.hid hk1; have HM1 := Lib.hid hm1
    clear hk1 hm1 HCR1
    by_cases h0 : c1 = 0
    · have HQ := Lib.hid (HER.out.symm.trans (show open5 nm r = (0, r1, some Wal.none_) from by unfold open5; rw [if_pos (HE0.out.trans H7.out), if_pos (HC1.out.trans h0), HR1.out]))
      have h0b : (c1 != 0) = false := by simp [h0]
      have HLB : Hid (L5At w1.heap.size x [w1.heap.size] nm (lgOf Wal.none_ false) (w1.alloc (.cells #[.pointer (some ⟨x, 0, none⟩), .string nm, .slice none 0 0, .int .i64 0, .int .i64 0, .bool false] 97))) := ⟨.slice none 0 0, by simp [Value.ownBlock], heap_alloc_new w1 _, World.ownsRow_nil _ _ _ _, by simp [Value.ownBlock]⟩
      have HKL := Lib.hid (HK1.out.alloc (.cells #[.pointer (some ⟨x, 0, none⟩), .string nm, .slice none 0 0, .int .i64 0, .int .i64 0, .bool false] 97))
      have HML := Lib.hid (HM1.out.alloc (.cells #[.pointer (some ⟨x, 0, none⟩), .string nm, .slice none 0 0, .int .i64 0, .int .i64 0, .bool false] 97))
      have hz1 := HM1.out.size
      clear h0
      go_wp2
      go_ret2
      refine ⟨_, S1, by rw [(Prod.mk.inj HQ.out).1]; rfl, ?_, by rw [(Prod.mk.inj (Prod.mk.inj HQ.out).2).1]; exact HKL.out, HML.out⟩
      rw [(Prod.mk.inj (Prod.mk.inj HQ.out).2).2]
      exact ⟨w1.heap.size, [w1.heap.size], rfl, HLB.out, fun k hk => by obtain rfl := List.mem_singleton.1 hk; exact hz1⟩
    · have h0b : (c1 != 0) = true := by simp [h0]
      have HQ := Lib.hid (HER.out.symm.trans (show open5 nm r = (c1, r1, none) from by unfold open5; rw [if_pos (HE0.out.trans H7.out), if_neg (by rw [HC1.out]; exact h0), HC1.out, HR1.out]))
      go_wp2
      go_ret2
      exact ⟨.pointer none, S1, by rw [(Prod.mk.inj HQ.out).1]; rfl, by rw [(Prod.mk.inj (Prod.mk.inj HQ.out).2).2]; rfl, by rw [(Prod.mk.inj (Prod.mk.inj HQ.out).2).1]; exact HK1.out, HM1.out⟩
  · have h7b : (e0 == 7) = false := beq_false_of_ne h7
    by_cases h0 : e0 = 0
    · have h0b : (e0 != 0) = false := by simp [h0]
      have hon := HON.out h0
      have HOP : Hid (open5 nm r = if (Wal.goodOf b.data.toList).size = b.size then (0, r, some (Wal.goodOf b.data.toList)) else if (first5 (mend5 nm b (Wal.goodOf b.data.toList).size) r).1 = 0 then (0, (first5 (mend5 nm b (Wal.goodOf b.data.toList).size) r).2, some (Wal.goodOf b.data.toList)) else ((first5 (mend5 nm b (Wal.goodOf b.data.toList).size) r).1, (first5 (mend5 nm b (Wal.goodOf b.data.toList).size) r).2, none)) := by
        show _ = _
        unfold open5
        rw [if_neg (by rw [HE0.out]; exact h7), if_pos (by rw [HE0.out]; exact h0), HB.out]
      have hgs := Wal.goodOf_size b.data.toList
      rw [len_data] at hgs
      obtain ⟨G, hG⟩ : ∃ G, Wal.goodOf b.data.toList = G := ⟨_, rfl⟩
      obtain ⟨y, hy⟩ : ∃ y, w.heap.size = y := ⟨_, rfl⟩
      obtain ⟨W1, HW1⟩ : ∃ W, Hid (w.alloc (.cells #[.pointer (some ⟨x, 0, none⟩), .string nm, .slice none 0 0, .int .i64 0, .int .i64 0, .bool false] 97) = W) := ⟨_, rfl⟩
      have GP := goodpart_any b (by omega) W1
      rw [hG] at GP hgs
      have HOP2 : Hid (open5 nm r = if G.size = b.size then (0, r, some G) else if (first5 (mend5 nm b G.size) r).1 = 0 then (0, (first5 (mend5 nm b G.size) r).2, some G) else ((first5 (mend5 nm b G.size) r).1, (first5 (mend5 nm b G.size) r).2, none)) := by
        have h := HOP.out
        rw [hG] at h
        exact h
      have HGP := Lib.hid GP
      have HY := Lib.hid hy
      have HY1 : Hid (W1.heap[y]? = some (.cells #[.pointer (some ⟨x, 0, none⟩), .string nm, .slice none 0 0, .int .i64 0, .int .i64 0, .bool false] 97 (0, 0))) := by show _ = _; rw [← HW1.out, ← hy]; exact heap_alloc_new _ _
      have HZ1 : Hid (y < W1.heap.size) := by show _ < _; rw [← HW1.out, ← hy]; simp
      have HK1 : Hid (D5At x S r W1) := by show D5At _ _ _ _; rw [← HW1.out]; exact HK.out.alloc _
      have HM1 : Hid (Mv S S w W1) := by show Mv _ _ _ _; rw [← HW1.out]; exact (Mv.refl _ _).alloc _
      clear HOP GP hG HCR hy
      go_upto_region 12 with (fail)
      rw [HW1.out]
      try rw [HY.out]
      go_wp2_with fail
      refine HGP.out.mono ?_
      rintro e w2 ⟨v, rfl, ho2, hb2⟩
      have hlt2 : y < w2.heap.size := Nat.lt_of_lt_of_le HZ1.out hb2.size
      have hy2 : w2.heap[y]? = some (.cells #[.pointer (some ⟨x, 0, none⟩), .string nm, .slice none 0 0, .int .i64 0, .int .i64 0, .bool false] 97 (0, 0)) := (hb2.block y HZ1.out).trans HY1.out
      have q2 : w2.cell? ⟨y, 2, none⟩ = some (.slice none 0 0) := by rw [Lib.cell_of_heap hy2]; rfl
      have q3 : w2.cell? ⟨y, 3, none⟩ = some (.int .i64 0) := by rw [Lib.cell_of_heap hy2]; rfl
      have q4 : w2.cell? ⟨y, 4, none⟩ = some (.int .i64 0) := by rw [Lib.cell_of_heap hy2]; rfl
      have k2 : w2.frozen? ⟨y, 2, none⟩ = false := Lib.frozen_of_heap hy2 2
      have k3 : w2.frozen? ⟨y, 3, none⟩ = false := Lib.frozen_of_heap hy2 3
      have k4 : w2.frozen? ⟨y, 4, none⟩ = false := Lib.frozen_of_heap hy2 4
      obtain ⟨AV, cV, rfl, hcV⟩ := own_form ho2
      obtain ⟨W3, HW3⟩ : ∃ W, Hid (((w2.setCell ⟨y, 2, none⟩ (.slice AV G.recs.length cV)).setCell ⟨y, 3, none⟩ (.int .i64 G.groups)).setCell ⟨y, 4, none⟩ (.int .i64 G.size) = W) := ⟨_, rfl⟩
      obtain ⟨T, hT⟩ : ∃ T, y :: (Value.slice AV G.recs.length cV).ownBlock.toList = T := ⟨_, rfl⟩
      have HL3 : Hid (L5At y x T nm (lgOf G false) W3) := by show L5At _ _ _ _ _ _; rw [← HW3.out, ← hT]; exact L5At.put hy2 ho2 HZ1.out
      have HT : Hid (∀ k, k ∈ T → w.heap.size ≤ k) := by
        show ∀ k, k ∈ T → _
        intro k hk
        rw [← hT] at hk
        simp only [List.mem_cons, Option.mem_toList] at hk
        rcases hk with rfl | hk
        · rw [HY.out]; exact Nat.le_refl _
        · exact Nat.le_trans HM1.out.size (ho2.lt k hk).1
      have hyS : y ∉ S := fun hh => by have := HK.out.there y hh; have := HY.out; omega
      have hm23 : Mv [y] [y] w2 W3 := by rw [← HW3.out]; exact (((Mv.refl [y] w2).set_ (by simp) 2 _).set_ (by simp) 3 _).set_ (by simp) 4 _
      have HK3 : Hid (D5At x S r W3) := (HK1.out.below hb2).aside hm23 (fun k hk hh => by obtain rfl := List.mem_singleton.1 hh; exact hyS hk)
      have HM3 : Hid (Mv S S w W3) := by
        have h1 := HM1.out.then_below hb2
        refine ⟨hm23.os.trans h1.os, hm23.tape.trans h1.tape, hm23.output.trans h1.output, Nat.le_trans h1.size hm23.size, fun k hk hn => ?_, fun k hk => .inl hk⟩
        exact (hm23.block k (Nat.lt_of_lt_of_le hk h1.size) (by simp; have := HY.out; omega)).trans (h1.block k hk hn)
      have q5 : W3.cell? ⟨y, 4, none⟩ = some (.int .i64 G.size) := by have h := HL3.out.cell4; exact h
      clear ho2 hb2 hy2 hT hm23 hyS HGP HK1 HM1 HY1 HZ1
      go_upto_region 13 with (fail)
      rw [HW3.out]
      clear q2 q3 q4 k2 k3 k4
      by_cases hgb : G.size = b.size
      · have hgb' : ((G.size : Int) == (b.size : Int)) = true := by rw [hgb]; simp
        have HQ := Lib.hid (HER.out.symm.trans (HOP2.out.trans (if_pos hgb)))
        clear hgb
        go_wp2
        go_ret2
        refine ⟨_, S, by rw [(Prod.mk.inj HQ.out).1]; rfl, ?_, by rw [(Prod.mk.inj (Prod.mk.inj HQ.out).2).1]; exact HK3.out, HM3.out⟩
        rw [(Prod.mk.inj (Prod.mk.inj HQ.out).2).2]
        exact ⟨y, T, rfl, HL3.out, HT.out⟩
      · have hgb' : ((G.size : Int) == (b.size : Int)) = false := beq_false_of_ne (by omega)
        have HNG := Lib.hid hgb
        obtain ⟨t, ht⟩ : ∃ t, spareOf nm = t := ⟨_, rfl⟩
        have hts : t.size ≤ 1000001 := by rw [← ht, spare_size]; omega
        have HTT : Hid (nm ++ ⟨#[126]⟩ = t) := ht
        have hcat : ¬ 9223372036854775807 < nm.size + 1 := by omega
        have HOP3 : Hid (open5 nm r = if (first5 (mend5 nm b G.size) r).1 = 0 then (0, (first5 (mend5 nm b G.size) r).2, some G) else ((first5 (mend5 nm b G.size) r).1, (first5 (mend5 nm b G.size) r).2, none)) := HOP2.out.trans (if_neg hgb)
        have HMD : Hid (mend5 nm b G.size = [drop5 t, fun r => create5 r t, fun r => append5 r t (b.extract 0 G.size), fun r => sync5 r t, fun r => rename5 r t nm]) := by show _ = _; unfold mend5; rw [ht]
        have D1 := HA.out.drop hon t
        have RT := read5_any x S r t W3 HK3.out (by omega)
        obtain ⟨e1, he1⟩ : ∃ e, (read5 r t).2 = e := ⟨_, rfl⟩
        rw [he1] at RT
        have HRT := Lib.hid RT; have HE1 := Lib.hid he1
        obtain ⟨r1, hr1⟩ : ∃ c, (drop5 t r).2 = c := ⟨_, rfl⟩
        obtain ⟨d1, hd1⟩ : ∃ c, (drop5 t r).1 = c := ⟨_, rfl⟩
        have hw1 := D1.2
        rw [hr1] at hw1
        have HR1 := Lib.hid hr1; have HD1 := Lib.hid hd1; have HA1 := Lib.hid hw1
        have HX : Hid (b.extract 0 G.size = b.extract 0 G.size) := rfl
        clear HOP2 ht D1 RT he1 hr1 hd1 hw1 hgb
        go_upto_region 16 with (fail)
        rw [HTT.out]
        go_wp2_with fail
        refine HRT.out.mono ?_
        rintro e w4 ⟨rfl, hw4⟩
        obtain rfl : W3 = w4 := hw4
        clear HRT
        by_cases h1 : e1 = 0
        · have e1b : (e1 == 0) = true := by simp [h1]
          have HDR : Hid (drop5 t r = remove5 r t) := by show (if (read5 r t).2 = 0 then _ else _) = _; rw [if_pos (HE1.out.trans h1)]
          have CX := remove5_any x S r t W3 HK3.out HA.out.ok5
          rw [← HDR.out, HR1.out, HD1.out] at CX
          have HCX := Lib.hid CX
          have H1 := Lib.hid h1
          clear CX h1
          go_wp2_with fail
          refine HCX.out.mono ?_
          rintro e v1 ⟨S1, rfl, hk1, hm1⟩
          have HKx1 := Lib.hid hk1; have HMx1 := Lib.hid (HM3.out.trans hm1)
          have HLx1 := Lib.hid (HL3.out.beside HK3.out hm1)
          clear hk1 hm1 HCX
          by_cases z1 : d1 = 0
          · have z1b : (d1 != 0) = false := by simp [z1]
            have HD0 := Lib.hid z1
            clear z1
            have C2 := create5_any x S1 r1 t (by omega) v1 HKx1.out HA1.out.ok5
            obtain ⟨r2, hr2⟩ : ∃ c, (create5 r1 t).2 = c := ⟨_, rfl⟩
            obtain ⟨d2, hd2⟩ : ∃ c, (create5 r1 t).1 = c := ⟨_, rfl⟩
            rw [hr2, hd2] at C2
            have hag := (HA1.out.create t).2
            rw [hr2] at hag
            have HA2 := Lib.hid hag
            have HC2 := Lib.hid C2; have HR2 := Lib.hid hr2; have HD2 := Lib.hid hd2
            clear C2 hr2 hd2 hag
            go_wp2_with fail
            refine HC2.out.mono ?_
            rintro e v2 ⟨S2, rfl, hk2, hm2⟩
            have HKx2 := Lib.hid hk2; have HMx2 := Lib.hid (HMx1.out.trans hm2)
            have HLx2 := Lib.hid (HLx1.out.beside HKx1.out hm2)
            clear hk2 hm2 HC2
            by_cases z2 : d2 = 0
            · have z2b : (d2 != 0) = false := by simp [z2]
              have z2c : (d2 == 0) = true := by simp [z2]
              have Z2 := Lib.hid z2
              clear z2
              have C3 := append5_any x S2 r2 t (b.extract 0 G.size) (by have := extract_le b G.size; omega) v2 HKx2.out HA2.out.ok5
              obtain ⟨r3, hr3⟩ : ∃ c, (append5 r2 t (b.extract 0 G.size)).2 = c := ⟨_, rfl⟩
              obtain ⟨d3, hd3⟩ : ∃ c, (append5 r2 t (b.extract 0 G.size)).1 = c := ⟨_, rfl⟩
              rw [hr3, hd3] at C3
              have hag := (HA2.out.append t (b.extract 0 G.size)).2
              rw [hr3] at hag
              have HA3 := Lib.hid hag
              have HC3 := Lib.hid C3; have HR3 := Lib.hid hr3; have HD3 := Lib.hid hd3
              clear C3 hr3 hd3 hag
              have q9 : v2.cell? ⟨y, 4, none⟩ = some (.int .i64 G.size) := by have h := HLx2.out.cell4; exact h
              go_wp2_with fail
              refine HC3.out.mono ?_
              rintro e v3 ⟨S3, rfl, hk3, hm3⟩
              have HKx3 := Lib.hid hk3; have HMx3 := Lib.hid (HMx2.out.trans hm3)
              have HLx3 := Lib.hid (HLx2.out.beside HKx2.out hm3)
              clear hk3 hm3 HC3
              by_cases z3 : d3 = 0
              · have z3b : (d3 != 0) = false := by simp [z3]
                have z3c : (d3 == 0) = true := by simp [z3]
                have Z3 := Lib.hid z3
                clear z3
                have C4 := sync5_any x S3 r3 t v3 HKx3.out HA3.out.ok5
                obtain ⟨r4, hr4⟩ : ∃ c, (sync5 r3 t).2 = c := ⟨_, rfl⟩
                obtain ⟨d4, hd4⟩ : ∃ c, (sync5 r3 t).1 = c := ⟨_, rfl⟩
                rw [hr4, hd4] at C4
                have hag := (HA3.out.sync t).2
                rw [hr4] at hag
                have HA4 := Lib.hid hag
                have HC4 := Lib.hid C4; have HR4 := Lib.hid hr4; have HD4 := Lib.hid hd4
                clear C4 hr4 hd4 hag
                go_wp2_with fail
                refine HC4.out.mono ?_
                rintro e v4 ⟨S4, rfl, hk4, hm4⟩
                have HKx4 := Lib.hid hk4; have HMx4 := Lib.hid (HMx3.out.trans hm4)
                have HLx4 := Lib.hid (HLx3.out.beside HKx3.out hm4)
                clear hk4 hm4 HC4
                by_cases z4 : d4 = 0
                · have z4b : (d4 != 0) = false := by simp [z4]
                  have z4c : (d4 == 0) = true := by simp [z4]
                  have Z4 := Lib.hid z4
                  clear z4
                  have C5 := rename5_any x S4 r4 t nm (by omega) v4 HKx4.out HA4.out.ok5
                  obtain ⟨r5, hr5⟩ : ∃ c, (rename5 r4 t nm).2 = c := ⟨_, rfl⟩
                  obtain ⟨d5, hd5⟩ : ∃ c, (rename5 r4 t nm).1 = c := ⟨_, rfl⟩
                  rw [hr5, hd5] at C5
                  have hag := (HA4.out.rename t nm).2
                  rw [hr5] at hag
                  have HA5 := Lib.hid hag
                  have HC5 := Lib.hid C5; have HR5 := Lib.hid hr5; have HD5 := Lib.hid hd5
                  clear C5 hr5 hd5 hag
                  go_wp2_with fail
                  refine HC5.out.mono ?_
                  rintro e v5 ⟨S5, rfl, hk5, hm5⟩
                  have HKx5 := Lib.hid hk5; have HMx5 := Lib.hid (HMx4.out.trans hm5)
                  have HLx5 := Lib.hid (HLx4.out.beside HKx4.out hm5)
                  clear hk5 hm5 HC5
                  by_cases z5 : d5 = 0
                  · have z5b : (d5 != 0) = false := by simp [z5]
                    have z5c : (d5 == 0) = true := by simp [z5]
                    have Z5 := Lib.hid z5
                    clear z5
                    have HF : Hid (first5 (mend5 nm b G.size) r = (0, r5)) := by
                      show _ = _
                      rw [HMD.out, first5_yes (HD1.out.trans HD0.out), HR1.out]
                      rw [first5_yes (f := fun r => create5 r t) (r := r1) (HD2.out.trans Z2.out), show ((fun r => create5 r t) r1).2 = r2 from HR2.out]
                      rw [first5_yes (f := fun r => append5 r t (b.extract 0 G.size)) (r := r2) (HD3.out.trans Z3.out), show ((fun r => append5 r t (b.extract 0 G.size)) r2).2 = r3 from HR3.out]
                      rw [first5_yes (f := fun r => sync5 r t) (r := r3) (HD4.out.trans Z4.out), show ((fun r => sync5 r t) r3).2 = r4 from HR4.out]
                      rw [first5_yes (f := fun r => rename5 r t nm) (r := r4) (HD5.out.trans Z5.out), show ((fun r => rename5 r t nm) r4).2 = r5 from HR5.out]
                      rfl
                    have HQ := Lib.hid (HER.out.symm.trans (HOP3.out.trans (show _ = (0, r5, some G) by rw [HF.out, if_pos rfl])))
                    clear HF
                    go_wp2
                    go_ret2
                    refine ⟨_, S5, by rw [(Prod.mk.inj HQ.out).1]; rfl, ?_, by rw [(Prod.mk.inj (Prod.mk.inj HQ.out).2).1]; exact HKx5.out, HMx5.out⟩
                    rw [(Prod.mk.inj (Prod.mk.inj HQ.out).2).2]
                    exact ⟨y, T, rfl, HLx5.out, HT.out⟩
                  · have HF : Hid (first5 (mend5 nm b G.size) r = (d5, r5)) := by
                      show _ = _
                      rw [HMD.out, first5_yes (HD1.out.trans HD0.out), HR1.out]
                      rw [first5_yes (f := fun r => create5 r t) (r := r1) (HD2.out.trans Z2.out), show ((fun r => create5 r t) r1).2 = r2 from HR2.out]
                      rw [first5_yes (f := fun r => append5 r t (b.extract 0 G.size)) (r := r2) (HD3.out.trans Z3.out), show ((fun r => append5 r t (b.extract 0 G.size)) r2).2 = r3 from HR3.out]
                      rw [first5_yes (f := fun r => sync5 r t) (r := r3) (HD4.out.trans Z4.out), show ((fun r => sync5 r t) r3).2 = r4 from HR4.out]
                      rw [first5_no (f := fun r => rename5 r t nm) (r := r4) (by rw [show ((fun r => rename5 r t nm) r4).1 = d5 from HD5.out]; exact z5)]
                      exact Prod.ext HD5.out HR5.out
                    have HQ := Lib.hid (HER.out.symm.trans (HOP3.out.trans (show _ = (d5, r5, none) by rw [HF.out, if_neg z5])))
                    have z5b : (d5 != 0) = true := by simp [z5]
                    have z5c : (d5 == 0) = false := beq_false_of_ne z5
                    have Z5 := Lib.hid z5
                    clear z5 HF
                    go_wp2
                    go_ret2
                    exact ⟨.pointer none, S5, by rw [(Prod.mk.inj HQ.out).1]; rfl, by rw [(Prod.mk.inj (Prod.mk.inj HQ.out).2).2]; rfl, by rw [(Prod.mk.inj (Prod.mk.inj HQ.out).2).1]; exact HKx5.out, HMx5.out⟩
                · have HF : Hid (first5 (mend5 nm b G.size) r = (d4, r4)) := by
                    show _ = _
                    rw [HMD.out, first5_yes (HD1.out.trans HD0.out), HR1.out]
                    rw [first5_yes (f := fun r => create5 r t) (r := r1) (HD2.out.trans Z2.out), show ((fun r => create5 r t) r1).2 = r2 from HR2.out]
                    rw [first5_yes (f := fun r => append5 r t (b.extract 0 G.size)) (r := r2) (HD3.out.trans Z3.out), show ((fun r => append5 r t (b.extract 0 G.size)) r2).2 = r3 from HR3.out]
                    rw [first5_no (f := fun r => sync5 r t) (r := r3) (by rw [show ((fun r => sync5 r t) r3).1 = d4 from HD4.out]; exact z4)]
                    exact Prod.ext HD4.out HR4.out
                  have HQ := Lib.hid (HER.out.symm.trans (HOP3.out.trans (show _ = (d4, r4, none) by rw [HF.out, if_neg z4])))
                  have z4b : (d4 != 0) = true := by simp [z4]
                  have z4c : (d4 == 0) = false := beq_false_of_ne z4
                  have Z4 := Lib.hid z4
                  clear z4 HF
                  go_wp2
                  go_ret2
                  exact ⟨.pointer none, S4, by rw [(Prod.mk.inj HQ.out).1]; rfl, by rw [(Prod.mk.inj (Prod.mk.inj HQ.out).2).2]; rfl, by rw [(Prod.mk.inj (Prod.mk.inj HQ.out).2).1]; exact HKx4.out, HMx4.out⟩
              · have HF : Hid (first5 (mend5 nm b G.size) r = (d3, r3)) := by
                  show _ = _
                  rw [HMD.out, first5_yes (HD1.out.trans HD0.out), HR1.out]
                  rw [first5_yes (f := fun r => create5 r t) (r := r1) (HD2.out.trans Z2.out), show ((fun r => create5 r t) r1).2 = r2 from HR2.out]
                  rw [first5_no (f := fun r => append5 r t (b.extract 0 G.size)) (r := r2) (by rw [show ((fun r => append5 r t (b.extract 0 G.size)) r2).1 = d3 from HD3.out]; exact z3)]
                  exact Prod.ext HD3.out HR3.out
                have HQ := Lib.hid (HER.out.symm.trans (HOP3.out.trans (show _ = (d3, r3, none) by rw [HF.out, if_neg z3])))
                have z3b : (d3 != 0) = true := by simp [z3]
                have z3c : (d3 == 0) = false := beq_false_of_ne z3
                have Z3 := Lib.hid z3
                clear z3 HF
                go_wp2
                go_ret2
                exact ⟨.pointer none, S3, by rw [(Prod.mk.inj HQ.out).1]; rfl, by rw [(Prod.mk.inj (Prod.mk.inj HQ.out).2).2]; rfl, by rw [(Prod.mk.inj (Prod.mk.inj HQ.out).2).1]; exact HKx3.out, HMx3.out⟩
            · have HF : Hid (first5 (mend5 nm b G.size) r = (d2, r2)) := by
                show _ = _
                rw [HMD.out, first5_yes (HD1.out.trans HD0.out), HR1.out]
                rw [first5_no (f := fun r => create5 r t) (r := r1) (by rw [show ((fun r => create5 r t) r1).1 = d2 from HD2.out]; exact z2)]
                exact Prod.ext HD2.out HR2.out
              have HQ := Lib.hid (HER.out.symm.trans (HOP3.out.trans (show _ = (d2, r2, none) by rw [HF.out, if_neg z2])))
              have z2b : (d2 != 0) = true := by simp [z2]
              have z2c : (d2 == 0) = false := beq_false_of_ne z2
              have Z2 := Lib.hid z2
              clear z2 HF
              go_wp2
              go_ret2
              exact ⟨.pointer none, S2, by rw [(Prod.mk.inj HQ.out).1]; rfl, by rw [(Prod.mk.inj (Prod.mk.inj HQ.out).2).2]; rfl, by rw [(Prod.mk.inj (Prod.mk.inj HQ.out).2).1]; exact HKx2.out, HMx2.out⟩
          · have HF : Hid (first5 (mend5 nm b G.size) r = (d1, r1)) := by
              show _ = _
              rw [HMD.out, first5_no (f := drop5 t) (by rw [HD1.out]; exact z1)]
              exact Prod.ext HD1.out HR1.out
            have HQ := Lib.hid (HER.out.symm.trans (HOP3.out.trans (show _ = (d1, r1, none) by rw [HF.out, if_neg z1])))
            have z1b : (d1 != 0) = true := by simp [z1]
            clear z1 HF
            go_wp2
            go_ret2
            exact ⟨.pointer none, S1, by rw [(Prod.mk.inj HQ.out).1]; rfl, by rw [(Prod.mk.inj (Prod.mk.inj HQ.out).2).2]; rfl, by rw [(Prod.mk.inj (Prod.mk.inj HQ.out).2).1]; exact HKx1.out, HMx1.out⟩
        · have e1b : (e1 == 0) = false := beq_false_of_ne h1
          have HDR : Hid (drop5 t r = (0, r)) := by show (if (read5 r t).2 = 0 then _ else _) = _; rw [if_neg (by rw [HE1.out]; exact h1)]
          have HD0 : Hid (d1 = 0) := by show _ = _; rw [← HD1.out, HDR.out]
          have hrr : r = r1 := by rw [← HR1.out, HDR.out]
          have HKy : Hid (D5At x S r1 W3) := by have h := HK3.out; rw [hrr] at h; exact h
          clear h1 hrr HDR
          have C2 := create5_any x S r1 t (by omega) W3 HKy.out HA1.out.ok5
          obtain ⟨r2, hr2⟩ : ∃ c, (create5 r1 t).2 = c := ⟨_, rfl⟩
          obtain ⟨d2, hd2⟩ : ∃ c, (create5 r1 t).1 = c := ⟨_, rfl⟩
          rw [hr2, hd2] at C2
          have hag := (HA1.out.create t).2
          rw [hr2] at hag
          have HA2 := Lib.hid hag
          have HC2 := Lib.hid C2; have HR2 := Lib.hid hr2; have HD2 := Lib.hid hd2
          clear C2 hr2 hd2 hag
          go_wp2_with fail
          refine HC2.out.mono ?_
          rintro e v2 ⟨S2, rfl, hk2, hm2⟩
          have HKx2 := Lib.hid hk2; have HMx2 := Lib.hid (HM3.out.trans hm2)
          have HLx2 := Lib.hid (HL3.out.beside HKy.out hm2)
          clear hk2 hm2 HC2
          by_cases z2 : d2 = 0
          · have z2b : (d2 != 0) = false := by simp [z2]
            have z2c : (d2 == 0) = true := by simp [z2]
            have Z2 := Lib.hid z2
            clear z2
            have C3 := append5_any x S2 r2 t (b.extract 0 G.size) (by have := extract_le b G.size; omega) v2 HKx2.out HA2.out.ok5
            obtain ⟨r3, hr3⟩ : ∃ c, (append5 r2 t (b.extract 0 G.size)).2 = c := ⟨_, rfl⟩
            obtain ⟨d3, hd3⟩ : ∃ c, (append5 r2 t (b.extract 0 G.size)).1 = c := ⟨_, rfl⟩
            rw [hr3, hd3] at C3
            have hag := (HA2.out.append t (b.extract 0 G.size)).2
            rw [hr3] at hag
            have HA3 := Lib.hid hag
            have HC3 := Lib.hid C3; have HR3 := Lib.hid hr3; have HD3 := Lib.hid hd3
            clear C3 hr3 hd3 hag
            have q9 : v2.cell? ⟨y, 4, none⟩ = some (.int .i64 G.size) := by have h := HLx2.out.cell4; exact h
            go_wp2_with fail
            refine HC3.out.mono ?_
            rintro e v3 ⟨S3, rfl, hk3, hm3⟩
            have HKx3 := Lib.hid hk3; have HMx3 := Lib.hid (HMx2.out.trans hm3)
            have HLx3 := Lib.hid (HLx2.out.beside HKx2.out hm3)
            clear hk3 hm3 HC3
            by_cases z3 : d3 = 0
            · have z3b : (d3 != 0) = false := by simp [z3]
              have z3c : (d3 == 0) = true := by simp [z3]
              have Z3 := Lib.hid z3
              clear z3
              have C4 := sync5_any x S3 r3 t v3 HKx3.out HA3.out.ok5
              obtain ⟨r4, hr4⟩ : ∃ c, (sync5 r3 t).2 = c := ⟨_, rfl⟩
              obtain ⟨d4, hd4⟩ : ∃ c, (sync5 r3 t).1 = c := ⟨_, rfl⟩
              rw [hr4, hd4] at C4
              have hag := (HA3.out.sync t).2
              rw [hr4] at hag
              have HA4 := Lib.hid hag
              have HC4 := Lib.hid C4; have HR4 := Lib.hid hr4; have HD4 := Lib.hid hd4
              clear C4 hr4 hd4 hag
              go_wp2_with fail
              refine HC4.out.mono ?_
              rintro e v4 ⟨S4, rfl, hk4, hm4⟩
              have HKx4 := Lib.hid hk4; have HMx4 := Lib.hid (HMx3.out.trans hm4)
              have HLx4 := Lib.hid (HLx3.out.beside HKx3.out hm4)
              clear hk4 hm4 HC4
              by_cases z4 : d4 = 0
              · have z4b : (d4 != 0) = false := by simp [z4]
                have z4c : (d4 == 0) = true := by simp [z4]
                have Z4 := Lib.hid z4
                clear z4
                have C5 := rename5_any x S4 r4 t nm (by omega) v4 HKx4.out HA4.out.ok5
                obtain ⟨r5, hr5⟩ : ∃ c, (rename5 r4 t nm).2 = c := ⟨_, rfl⟩
                obtain ⟨d5, hd5⟩ : ∃ c, (rename5 r4 t nm).1 = c := ⟨_, rfl⟩
                rw [hr5, hd5] at C5
                have hag := (HA4.out.rename t nm).2
                rw [hr5] at hag
                have HA5 := Lib.hid hag
                have HC5 := Lib.hid C5; have HR5 := Lib.hid hr5; have HD5 := Lib.hid hd5
                clear C5 hr5 hd5 hag
                go_wp2_with fail
                refine HC5.out.mono ?_
                rintro e v5 ⟨S5, rfl, hk5, hm5⟩
                have HKx5 := Lib.hid hk5; have HMx5 := Lib.hid (HMx4.out.trans hm5)
                have HLx5 := Lib.hid (HLx4.out.beside HKx4.out hm5)
                clear hk5 hm5 HC5
                by_cases z5 : d5 = 0
                · have z5b : (d5 != 0) = false := by simp [z5]
                  have z5c : (d5 == 0) = true := by simp [z5]
                  have Z5 := Lib.hid z5
                  clear z5
                  have HF : Hid (first5 (mend5 nm b G.size) r = (0, r5)) := by
                    show _ = _
                    rw [HMD.out, first5_yes (HD1.out.trans HD0.out), HR1.out]
                    rw [first5_yes (f := fun r => create5 r t) (r := r1) (HD2.out.trans Z2.out), show ((fun r => create5 r t) r1).2 = r2 from HR2.out]
                    rw [first5_yes (f := fun r => append5 r t (b.extract 0 G.size)) (r := r2) (HD3.out.trans Z3.out), show ((fun r => append5 r t (b.extract 0 G.size)) r2).2 = r3 from HR3.out]
                    rw [first5_yes (f := fun r => sync5 r t) (r := r3) (HD4.out.trans Z4.out), show ((fun r => sync5 r t) r3).2 = r4 from HR4.out]
                    rw [first5_yes (f := fun r => rename5 r t nm) (r := r4) (HD5.out.trans Z5.out), show ((fun r => rename5 r t nm) r4).2 = r5 from HR5.out]
                    rfl
                  have HQ := Lib.hid (HER.out.symm.trans (HOP3.out.trans (show _ = (0, r5, some G) by rw [HF.out, if_pos rfl])))
                  clear HF
                  go_wp2
                  go_ret2
                  refine ⟨_, S5, by rw [(Prod.mk.inj HQ.out).1]; rfl, ?_, by rw [(Prod.mk.inj (Prod.mk.inj HQ.out).2).1]; exact HKx5.out, HMx5.out⟩
                  rw [(Prod.mk.inj (Prod.mk.inj HQ.out).2).2]
                  exact ⟨y, T, rfl, HLx5.out, HT.out⟩
                · have HF : Hid (first5 (mend5 nm b G.size) r = (d5, r5)) := by
                    show _ = _
                    rw [HMD.out, first5_yes (HD1.out.trans HD0.out), HR1.out]
                    rw [first5_yes (f := fun r => create5 r t) (r := r1) (HD2.out.trans Z2.out), show ((fun r => create5 r t) r1).2 = r2 from HR2.out]
                    rw [first5_yes (f := fun r => append5 r t (b.extract 0 G.size)) (r := r2) (HD3.out.trans Z3.out), show ((fun r => append5 r t (b.extract 0 G.size)) r2).2 = r3 from HR3.out]
                    rw [first5_yes (f := fun r => sync5 r t) (r := r3) (HD4.out.trans Z4.out), show ((fun r => sync5 r t) r3).2 = r4 from HR4.out]
                    rw [first5_no (f := fun r => rename5 r t nm) (r := r4) (by rw [show ((fun r => rename5 r t nm) r4).1 = d5 from HD5.out]; exact z5)]
                    exact Prod.ext HD5.out HR5.out
                  have HQ := Lib.hid (HER.out.symm.trans (HOP3.out.trans (show _ = (d5, r5, none) by rw [HF.out, if_neg z5])))
                  have z5b : (d5 != 0) = true := by simp [z5]
                  have z5c : (d5 == 0) = false := beq_false_of_ne z5
                  have Z5 := Lib.hid z5
                  clear z5 HF
                  go_wp2
                  go_ret2
                  exact ⟨.pointer none, S5, by rw [(Prod.mk.inj HQ.out).1]; rfl, by rw [(Prod.mk.inj (Prod.mk.inj HQ.out).2).2]; rfl, by rw [(Prod.mk.inj (Prod.mk.inj HQ.out).2).1]; exact HKx5.out, HMx5.out⟩
              · have HF : Hid (first5 (mend5 nm b G.size) r = (d4, r4)) := by
                  show _ = _
                  rw [HMD.out, first5_yes (HD1.out.trans HD0.out), HR1.out]
                  rw [first5_yes (f := fun r => create5 r t) (r := r1) (HD2.out.trans Z2.out), show ((fun r => create5 r t) r1).2 = r2 from HR2.out]
                  rw [first5_yes (f := fun r => append5 r t (b.extract 0 G.size)) (r := r2) (HD3.out.trans Z3.out), show ((fun r => append5 r t (b.extract 0 G.size)) r2).2 = r3 from HR3.out]
                  rw [first5_no (f := fun r => sync5 r t) (r := r3) (by rw [show ((fun r => sync5 r t) r3).1 = d4 from HD4.out]; exact z4)]
                  exact Prod.ext HD4.out HR4.out
                have HQ := Lib.hid (HER.out.symm.trans (HOP3.out.trans (show _ = (d4, r4, none) by rw [HF.out, if_neg z4])))
                have z4b : (d4 != 0) = true := by simp [z4]
                have z4c : (d4 == 0) = false := beq_false_of_ne z4
                have Z4 := Lib.hid z4
                clear z4 HF
                go_wp2
                go_ret2
                exact ⟨.pointer none, S4, by rw [(Prod.mk.inj HQ.out).1]; rfl, by rw [(Prod.mk.inj (Prod.mk.inj HQ.out).2).2]; rfl, by rw [(Prod.mk.inj (Prod.mk.inj HQ.out).2).1]; exact HKx4.out, HMx4.out⟩
            · have HF : Hid (first5 (mend5 nm b G.size) r = (d3, r3)) := by
                show _ = _
                rw [HMD.out, first5_yes (HD1.out.trans HD0.out), HR1.out]
                rw [first5_yes (f := fun r => create5 r t) (r := r1) (HD2.out.trans Z2.out), show ((fun r => create5 r t) r1).2 = r2 from HR2.out]
                rw [first5_no (f := fun r => append5 r t (b.extract 0 G.size)) (r := r2) (by rw [show ((fun r => append5 r t (b.extract 0 G.size)) r2).1 = d3 from HD3.out]; exact z3)]
                exact Prod.ext HD3.out HR3.out
              have HQ := Lib.hid (HER.out.symm.trans (HOP3.out.trans (show _ = (d3, r3, none) by rw [HF.out, if_neg z3])))
              have z3b : (d3 != 0) = true := by simp [z3]
              have z3c : (d3 == 0) = false := beq_false_of_ne z3
              have Z3 := Lib.hid z3
              clear z3 HF
              go_wp2
              go_ret2
              exact ⟨.pointer none, S3, by rw [(Prod.mk.inj HQ.out).1]; rfl, by rw [(Prod.mk.inj (Prod.mk.inj HQ.out).2).2]; rfl, by rw [(Prod.mk.inj (Prod.mk.inj HQ.out).2).1]; exact HKx3.out, HMx3.out⟩
          · have HF : Hid (first5 (mend5 nm b G.size) r = (d2, r2)) := by
              show _ = _
              rw [HMD.out, first5_yes (HD1.out.trans HD0.out), HR1.out]
              rw [first5_no (f := fun r => create5 r t) (r := r1) (by rw [show ((fun r => create5 r t) r1).1 = d2 from HD2.out]; exact z2)]
              exact Prod.ext HD2.out HR2.out
            have HQ := Lib.hid (HER.out.symm.trans (HOP3.out.trans (show _ = (d2, r2, none) by rw [HF.out, if_neg z2])))
            have z2b : (d2 != 0) = true := by simp [z2]
            have z2c : (d2 == 0) = false := beq_false_of_ne z2
            have Z2 := Lib.hid z2
            clear z2 HF
            go_wp2
            go_ret2
            exact ⟨.pointer none, S2, by rw [(Prod.mk.inj HQ.out).1]; rfl, by rw [(Prod.mk.inj (Prod.mk.inj HQ.out).2).2]; rfl, by rw [(Prod.mk.inj (Prod.mk.inj HQ.out).2).1]; exact HKx2.out, HMx2.out⟩
    · have h0b : (e0 != 0) = true := by simp [h0]
      have HQ := Lib.hid (HER.out.symm.trans (show open5 nm r = (e0, r, none) from by unfold open5; rw [if_neg (by rw [HE0.out]; exact h7), if_neg (by rw [HE0.out]; exact h0), HE0.out]))
      go_wp2
      go_ret2
      exact ⟨.pointer none, S, by rw [(Prod.mk.inj HQ.out).1]; rfl, by rw [(Prod.mk.inj (Prod.mk.inj HQ.out).2).2]; rfl, by rw [(Prod.mk.inj (Prod.mk.inj HQ.out).2).1]; exact HK.out, Mv.refl _ _⟩
end Go.Proofs.YtfmbadinfhpihaaGreat
