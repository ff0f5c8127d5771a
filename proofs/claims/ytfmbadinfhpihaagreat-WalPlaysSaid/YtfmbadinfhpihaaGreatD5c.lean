/-
  The document's disk (complineref5.Disk): Create, Remove, Sync, Append, Rename as contracts.
  Conditions: a disk that is sound (D5.Ok); texts that are in memory.
-/
import Derived.Test.YtfmbadinfhpihaaGreatD5b
set_option linter.unusedVariables false
set_option linter.unusedSimpArgs false
namespace Go.Proofs.YtfmbadinfhpihaaGreat
open Go.RowKit Go.Maps
attribute [local go_sem ↓] Go.wp_at_zero Go.wp_at_succ
set_option maxRecDepth 100000

/-- What holds of the document's disk. -/
structure D5.Ok (r : D5) : Prop where
  ops0 : 0 ≤ r.ops
  ops1 : r.ops ≤ 4611686018427387904
  fuse0 : -1 ≤ r.fuse
  fuse1 : r.fuse ≤ 9223372036854775807
  few : r.l.length ≤ 50000
  nm : ∀ z ∈ r.l, z.name.size ≤ 9223372036854775807
  tot : tot5 r.l ≤ 1000000000
  sf : ∀ z ∈ r.l, 0 ≤ z.safe ∧ z.safe ≤ (z.data.size : Int)
theorem Agree5.ok5 {st : Dk} {r : D5} (h : Agree5 st r) : r.Ok := by
  have h1 := h.ok.ops0; have h2 := h.ok.ops1; have h3 := h.ok.left1
  have hm : ∀ z ∈ r.l, hasS st.fs z.name = true ∧ fileAt st.fs z.name = (z.data, z.safe) := fun z hz => (h.fs.mem z).1 hz
  refine ⟨by rw [h.ops]; exact h1, by rw [h.ops]; exact h2, ?_, ?_, by have := h.len; omega, fun z hz => by have := h.nm _ (hm z hz).1; omega, by rw [h.tot5]; have := h.tot; omega, fun z hz => ?_⟩
  · rw [h.fuse]
    by_cases hf : st.fused = true
    · rw [if_pos hf]; have := h.left hf; omega
    · rw [if_neg hf]; exact Int.le_refl _
  · rw [h.fuse]
    by_cases hf : st.fused = true
    · rw [if_pos hf]; exact h3
    · rw [if_neg hf]; decide
  · obtain ⟨_, g1, g2⟩ := fileAt_form h.fs.good z.name
    rw [(hm z hz).2] at g1 g2
    exact ⟨g1, g2⟩
theorem mv_own {x : Nat} {S : List Nat} {r : D5} {w w0 w' : World} (h : D5At x S r w0) (hm : Mv [x] [x] w w') : Mv S S w w' := hm.wide (fun k hk => by obtain rfl := List.mem_singleton.1 hk; exact h.own)
theorem mem_tot {l : List Fl} {y : Fl} (h : y ∈ l) : y.data.size ≤ tot5 l := by
  induction l with
  | nil => cases h
  | cons z l ih =>
    unfold tot5 at ih ⊢
    rw [List.map_cons, List.sum_cons]
    rcases List.mem_cons.1 h with rfl | h1
    · omega
    · have := ih h1; omega
theorem tot_take_succ {l : List Fl} {k : Nat} {y : Fl} (h : l[k]? = some y) : tot5 (l.take (k + 1)) = tot5 (l.take k) + y.data.size := by unfold tot5; rw [take_snoc h]; simp
theorem tot_take_le (l : List Fl) (k : Nat) : tot5 (l.take k) ≤ tot5 l := by
  have h : l.take k ++ l.drop k = l := List.take_append_drop k l
  unfold tot5
  conv => rhs; rw [← h]
  rw [List.map_append, List.sum_append]
  omega
set_option maxHeartbeats 8000000 in
theorem create5_any (x : Nat) (S : List Nat) (r : D5) (s : ByteArray) (hs : s.size ≤ 9223372036854775807) (w : World) (h : D5At x S r w) (hok : r.Ok) :
    Calls Tryz.prog 29 #[.pointer (some ⟨x, 0, none⟩), .string s] w fun e w' => ∃ S', e = .returned (.int .i64 (create5 r s).1) ∧ D5At x S' (create5 r s).2 w' ∧ Mv S S' w w' := by
  have HOP := Lib.hid (op5_any x S r w h hok.ops0 hok.ops1 hok.fuse0 hok.fuse1)
  have HOK := Lib.hid hok
  obtain ⟨E, hE⟩ : ∃ E, (create5 r s).1 = E := ⟨_, rfl⟩
  obtain ⟨R', hR⟩ : ∃ R', (create5 r s).2 = R' := ⟨_, rfl⟩
  rw [hE, hR]
  have HER : Hid ((create5 r s) = (E, R')) := by show _ = _; rw [← hE, ← hR]
  obtain ⟨sb, hsb⟩ : ∃ sb, stays5 r = sb := ⟨_, rfl⟩
  rw [hsb] at HOP
  have HSB := Lib.hid hsb
  clear hE hR hsb h hok
  go_enter Tryz.func29, Tryz.ntmps29
  go_wp2_with fail
  refine HOP.out.mono ?_
  rintro e w1 ⟨rfl, hk1, hm1⟩
  have HK1 := Lib.hid hk1
  have HM1 := Lib.hid (mv_own hk1 hm1)
  clear hk1 hm1 HOP
  cases sb
  · have HQ := Lib.hid (HER.out.symm.trans (by unfold create5; rw [if_neg (by rw [HSB.out]; decide)]))
    go_wp2
    go_ret
    refine ⟨S, by rw [(Prod.mk.inj HQ.out).1]; rfl, by rw [(Prod.mk.inj HQ.out).2]; exact HK1.out, HM1.out⟩
  · go_wp2_with fail
    refine (good5_any s hs w1).mono ?_
    rintro e w2 ⟨rfl, hw2⟩
    obtain rfl : w1 = w2 := hw2
    cases hv : validB s
    · have HQ := Lib.hid (HER.out.symm.trans (by unfold create5; rw [if_pos HSB.out, if_neg (by rw [hv]; decide)]))
      go_wp2
      go_ret
      refine ⟨S, by rw [(Prod.mk.inj HQ.out).1]; rfl, by rw [(Prod.mk.inj HQ.out).2]; exact HK1.out, HM1.out⟩
    · have FD := find5_any x S (op5 r) s w1 HK1.out (by rw [op5_l]; have := HOK.out.few; omega)
      rw [op5_l] at FD
      have HFD := Lib.hid FD
      clear FD
      go_wp2_with fail
      refine HFD.out.mono ?_
      rintro e w2 ⟨rfl, hw2⟩
      obtain rfl : w1 = w2 := hw2
      clear HFD
      rcases idx5_cases r.l s with ⟨k, y, hi, hk, hy, _, hf⟩ | ⟨hi, hf⟩
      · rw [hi]
        have b1 : (0 : Int) ≤ (k : Int) := by omega
        have HQ := Lib.hid (HER.out.symm.trans (by unfold create5; rw [if_pos HSB.out, if_pos hv, if_pos (by rw [hf]; rfl)]))
        go_wp2
        go_ret
        refine ⟨S, by rw [(Prod.mk.inj HQ.out).1]; rfl, by rw [(Prod.mk.inj HQ.out).2]; exact HK1.out, HM1.out⟩
      · rw [hi]
        obtain ⟨A, c, hcell, hcap, _⟩ := HK1.out.row
        rw [op5_l] at hcell hcap
        obtain ⟨n, hn⟩ : ∃ n, r.l.length = n := ⟨_, rfl⟩
        rw [hn] at hcell hcap
        by_cases h40 : 40 ≤ n
        · have hmd : decide ((n : Int) ≥ 40) = true := decide_eq_true (by omega)
          have HQ := Lib.hid (HER.out.symm.trans (by unfold create5; rw [if_pos HSB.out, if_pos hv, if_neg (by rw [hf]; decide), if_pos (by rw [hn]; exact h40)]))
          go_wp2
          go_ret
          refine ⟨S, by rw [(Prod.mk.inj HQ.out).1]; rfl, by rw [(Prod.mk.inj HQ.out).2]; exact HK1.out, HM1.out⟩
        · have hmd : decide ((n : Int) ≥ 40) = false := decide_eq_false (by omega)
          have HQ := Lib.hid (HER.out.symm.trans (show create5 r s = (0, (op5 r).with (insK r.l ⟨s, ⟨#[]⟩, 0⟩)) by unfold create5; rw [if_pos HSB.out, if_pos hv, if_neg (by rw [hf]; decide), if_neg (by rw [hn]; exact h40)]))
          have PT := put5_any x S (op5 r) ⟨s, ⟨#[]⟩, 0⟩ w1 HK1.out (by rw [op5_l]; have := HOK.out.few; omega) (by rw [op5_l]; exact HOK.out.nm) hs
          rw [op5_l] at PT
          have HPT : Hid (Calls Tryz.prog 65 #[.pointer (some ⟨x, 0, none⟩), .agg #[.string s, .string ⟨#[]⟩, .int .i64 0]] w1 fun e w' => ∃ S', e = .returned (.tuple #[]) ∧ D5At x S' ((op5 r).with (insK r.l ⟨s, ⟨#[]⟩, 0⟩)) w' ∧ Mv S S' w1 w') := PT
          clear PT hf hi hn
          go_wp2_with fail
          refine HPT.out.mono ?_
          rintro e w3 ⟨S3, rfl, hk3, hm3⟩
          have HK3 := Lib.hid hk3; have HM3 := Lib.hid (HM1.out.trans hm3)
          clear hk3 hm3 HPT
          go_wp2
          go_ret
          exact ⟨S3, by rw [(Prod.mk.inj HQ.out).1]; rfl, by rw [(Prod.mk.inj HQ.out).2]; exact HK3.out, HM3.out⟩
set_option maxHeartbeats 8000000 in
theorem remove5_any (x : Nat) (S : List Nat) (r : D5) (s : ByteArray) (w : World) (h : D5At x S r w) (hok : r.Ok) :
    Calls Tryz.prog 68 #[.pointer (some ⟨x, 0, none⟩), .string s] w fun e w' => ∃ S', e = .returned (.int .i64 (remove5 r s).1) ∧ D5At x S' (remove5 r s).2 w' ∧ Mv S S' w w' := by
  have HOP := Lib.hid (op5_any x S r w h hok.ops0 hok.ops1 hok.fuse0 hok.fuse1)
  have HOK := Lib.hid hok
  obtain ⟨E, hE⟩ : ∃ E, (remove5 r s).1 = E := ⟨_, rfl⟩
  obtain ⟨R', hR⟩ : ∃ R', (remove5 r s).2 = R' := ⟨_, rfl⟩
  rw [hE, hR]
  have HER : Hid ((remove5 r s) = (E, R')) := by show _ = _; rw [← hE, ← hR]
  obtain ⟨sb, hsb⟩ : ∃ sb, stays5 r = sb := ⟨_, rfl⟩
  rw [hsb] at HOP
  have HSB := Lib.hid hsb
  clear hE hR hsb h hok
  go_enter Tryz.func68, Tryz.ntmps68
  go_wp2_with fail
  refine HOP.out.mono ?_
  rintro e w1 ⟨rfl, hk1, hm1⟩
  have HK1 := Lib.hid hk1
  have HM1 := Lib.hid (mv_own hk1 hm1)
  clear hk1 hm1 HOP
  have FD := find5_any x S (op5 r) s w1 HK1.out (by rw [op5_l]; have := HOK.out.few; omega)
  rw [op5_l] at FD
  have HFD := Lib.hid FD
  clear FD
  go_wp2_with fail
  refine HFD.out.mono ?_
  rintro e w2 ⟨rfl, hw2⟩
  obtain rfl : w1 = w2 := hw2
  clear HFD
  rcases idx5_cases r.l s with ⟨k, y, hi, hk, hy, hb, hf⟩ | ⟨hi, hf⟩
  · rw [hi]
    have b1 : (0 : Int) ≤ (k : Int) := by omega
    cases sb
    · have HQ := Lib.hid (HER.out.symm.trans (by unfold remove5; rw [if_neg (by rw [HSB.out]; decide)]))
      go_wp2
      go_ret
      refine ⟨S, by rw [(Prod.mk.inj HQ.out).1]; rfl, by rw [(Prod.mk.inj HQ.out).2]; exact HK1.out, HM1.out⟩
    · have HCU := (updF_at (f := id) hb hk hy).2
      have HQ := Lib.hid (HER.out.symm.trans (show remove5 r s = (0, (op5 r).with (r.l.take k ++ r.l.drop (k + 1))) by unfold remove5; rw [if_pos HSB.out, if_pos (by rw [hf]; rfl), HCU]))
      have CU := cut5_any x S (op5 r) k w1 HK1.out (by rw [op5_l]; have := HOK.out.few; omega) (by rw [op5_l]; exact (List.getElem?_eq_some_iff.1 hk).1)
      rw [op5_l] at CU
      have HCT := Lib.hid CU
      clear CU HCU hi hk hy hb hf
      go_wp2_with fail
      refine HCT.out.mono ?_
      rintro e w3 ⟨S3, rfl, hk3, hm3⟩
      have HK3 := Lib.hid hk3; have HM3 := Lib.hid (HM1.out.trans hm3)
      clear hk3 hm3 HCT
      go_wp2
      go_ret
      exact ⟨S3, by rw [(Prod.mk.inj HQ.out).1]; rfl, by rw [(Prod.mk.inj HQ.out).2]; exact HK3.out, HM3.out⟩
  · rw [hi]
    cases sb
    · have HQ := Lib.hid (HER.out.symm.trans (by unfold remove5; rw [if_neg (by rw [HSB.out]; decide)]))
      go_wp2
      go_ret
      refine ⟨S, by rw [(Prod.mk.inj HQ.out).1]; rfl, by rw [(Prod.mk.inj HQ.out).2]; exact HK1.out, HM1.out⟩
    · have HQ := Lib.hid (HER.out.symm.trans (by unfold remove5; rw [if_pos HSB.out, if_neg (by rw [hf]; decide)]))
      go_wp2
      go_ret
      refine ⟨S, by rw [(Prod.mk.inj HQ.out).1]; rfl, by rw [(Prod.mk.inj HQ.out).2]; exact HK1.out, HM1.out⟩
set_option maxHeartbeats 8000000 in
theorem rename5_any (x : Nat) (S : List Nat) (r : D5) (s t : ByteArray) (ht : t.size ≤ 9223372036854775807) (w : World) (h : D5At x S r w) (hok : r.Ok) :
    Calls Tryz.prog 70 #[.pointer (some ⟨x, 0, none⟩), .string s, .string t] w fun e w' => ∃ S', e = .returned (.int .i64 (rename5 r s t).1) ∧ D5At x S' (rename5 r s t).2 w' ∧ Mv S S' w w' := by
  have HOP := Lib.hid (op5_any x S r w h hok.ops0 hok.ops1 hok.fuse0 hok.fuse1)
  have HOK := Lib.hid hok
  obtain ⟨E, hE⟩ : ∃ E, (rename5 r s t).1 = E := ⟨_, rfl⟩
  obtain ⟨R', hR⟩ : ∃ R', (rename5 r s t).2 = R' := ⟨_, rfl⟩
  rw [hE, hR]
  have HER : Hid ((rename5 r s t) = (E, R')) := by show _ = _; rw [← hE, ← hR]
  obtain ⟨sb, hsb⟩ : ∃ sb, stays5 r = sb := ⟨_, rfl⟩
  rw [hsb] at HOP
  have HSB := Lib.hid hsb
  clear hE hR hsb h hok
  go_enter Tryz.func70, Tryz.ntmps70
  go_wp2_with fail
  refine HOP.out.mono ?_
  rintro e w1 ⟨rfl, hk1, hm1⟩
  have HK1 := Lib.hid hk1
  have HM1 := Lib.hid (mv_own hk1 hm1)
  clear hk1 hm1 HOP
  have FD := find5_any x S (op5 r) s w1 HK1.out (by rw [op5_l]; have := HOK.out.few; omega)
  rw [op5_l] at FD
  have HFD := Lib.hid FD
  clear FD
  go_wp2_with fail
  refine HFD.out.mono ?_
  rintro e w2 ⟨rfl, hw2⟩
  obtain rfl : w1 = w2 := hw2
  clear HFD
  rcases idx5_cases r.l s with ⟨k, y, hi, hk, hy, hb, hf⟩ | ⟨hi, hf⟩
  · rw [hi]
    have b1 : (0 : Int) ≤ (k : Int) := by omega
    cases sb
    · have HQ := Lib.hid (HER.out.symm.trans (by unfold rename5; rw [if_neg (by rw [HSB.out]; decide)]))
      go_wp2
      go_ret
      refine ⟨S, by rw [(Prod.mk.inj HQ.out).1]; rfl, by rw [(Prod.mk.inj HQ.out).2]; exact HK1.out, HM1.out⟩
    · go_wp2_with fail
      refine (good5_any t ht w1).mono ?_
      rintro e w2 ⟨rfl, hw2⟩
      obtain rfl : w1 = w2 := hw2
      cases hv : validB t
      · have HQ := Lib.hid (HER.out.symm.trans (show rename5 r s t = (9, op5 r) from by unfold rename5; rw [if_pos HSB.out, hf]; dsimp only; rw [if_neg (by rw [hv]; decide)]))
        go_wp2
        go_ret
        refine ⟨S, by rw [(Prod.mk.inj HQ.out).1]; rfl, by rw [(Prod.mk.inj HQ.out).2]; exact HK1.out, HM1.out⟩
      · by_cases hst : s = t
        · have hq : (s.toList == t.toList) = true := by rw [hst]; simp
          have HQ := Lib.hid (HER.out.symm.trans (show rename5 r s t = (0, op5 r) from by unfold rename5; rw [if_pos HSB.out, hf]; dsimp only; rw [if_pos hv, if_pos hst]))
          go_wp2
          go_ret
          refine ⟨S, by rw [(Prod.mk.inj HQ.out).1]; rfl, by rw [(Prod.mk.inj HQ.out).2]; exact HK1.out, HM1.out⟩
        · have hq : (s.toList == t.toList) = false := beq_name hst
          obtain ⟨A, c, hcell, hcap, hrow⟩ := HK1.out.row
          rw [op5_l] at hcell hcap hrow
          obtain ⟨n, hn⟩ : ∃ n, r.l.length = n := ⟨_, rfl⟩
          rw [hn] at hcell hcap
          have hkn : k < n := by rw [← hn]; exact (List.getElem?_eq_some_iff.1 hk).1
          obtain ⟨ad, y', rfl, hab, hyk, hym, hc⟩ := hrow.at_ (show k < r.l.length by rw [hn]; exact hkn)
          rw [hk] at hyk
          injection hyk with hyk
          subst hyk
          have e0 : w1.cell? (ad.add (k * 3)) = some (.string y.name) := by have h := hc 0 _ rfl; rw [show (ad.add (k * 3)).add 0 = ad.add (k * 3) from by rw [add_of_add]; rfl] at h; exact h
          have e1 : w1.cell? ⟨(ad.add (k * 3)).block, (ad.add (k * 3)).off + 1, none⟩ = some (.string y.data) := hc 1 _ rfl
          have e2 : w1.cell? ⟨(ad.add (k * 3)).block, (ad.add (k * 3)).off + 2, none⟩ = some (.int .i64 y.safe) := hc 2 _ rfl
          have b2 : (k : Int) < (n : Int) := by omega
          have HCU := (updF_at (f := id) hb hk hy).2
          have HSQ : Hid (rename5 r s t = (0, (op5 r).with (moved r.l y t))) := by show _ = _; unfold rename5; rw [if_pos HSB.out, hf]; dsimp only; rw [if_pos hv, if_neg hst]
          have HQ := Lib.hid (HER.out.symm.trans HSQ.out)
          have CU := cut5_any x S (op5 r) k w1 HK1.out (by rw [op5_l]; have := HOK.out.few; omega) (by rw [op5_l, hn]; exact hkn)
          rw [op5_l, ← HCU] at CU
          have HYM := Lib.hid (HOK.out.nm y hym)
          have HYN := Lib.hid hy
          have HFW : Hid ((cutF s r.l).length ≤ 50000 ∧ ∀ z ∈ cutF s r.l, z.name.size ≤ 9223372036854775807) := by
            show _ ∧ _
            rw [HCU]
            refine ⟨by rw [List.length_append, List.length_take, List.length_drop]; have := HOK.out.few; omega, fun z hz => ?_⟩
            rcases List.mem_append.1 hz with h1 | h1
            · exact HOK.out.nm z (List.mem_of_mem_take h1)
            · exact HOK.out.nm z (List.mem_of_mem_drop h1)
          obtain ⟨p, hp⟩ : ∃ p, w1.heap.size = p := ⟨_, rfl⟩
          have HPW : Hid (w.heap.size ≤ p) := by show _ ≤ _; rw [← hp]; exact HM1.out.size
          obtain ⟨W2, HW2⟩ : ∃ W, Hid (w1.alloc (.cells #[.string y.name, .string y.data, .int .i64 y.safe] 121) = W) := ⟨_, rfl⟩
          have HB2 : Hid (Below w1.heap.size w1 W2) := by show Below _ _ _; rw [← HW2.out]; exact (Below.refl _ _).alloc (Nat.le_refl _) _
          have HP2 : Hid (W2.heap[p]? = some (.cells #[.string y.name, .string y.data, .int .i64 y.safe] 121 (0, 0))) := by show _ = _; rw [← HW2.out, ← hp]; exact heap_alloc_new _ _
          have HK2 := Lib.hid (HK1.out.below HB2.out)
          have HPX : Hid (p ∉ S) := fun hpS => by have := HK1.out.there p hpS; omega
          have HM2 : Hid (Mv S S w W2) := HM1.out.then_below HB2.out
          have HZ2 : Hid (p < W2.heap.size) := by show _ < _; rw [← HW2.out, ← hp]; simp
          clear HK1 HM1
          obtain ⟨L1, hL1⟩ : ∃ L1, cutF s r.l = L1 := ⟨_, rfl⟩
          rw [hL1] at CU HFW
          have HL1 := Lib.hid hL1
          have HCT : Hid (∀ W, D5At x S (op5 r) W → Calls Tryz.prog 168 #[.pointer (some ⟨x, 0, none⟩), .int .i64 k] W fun e w' => ∃ S', e = .returned (.tuple #[]) ∧ D5At x S' ((op5 r).with L1) w' ∧ Mv S S' W w') := fun W hW => by
            have CV := cut5_any x S (op5 r) k W hW (by rw [op5_l]; have := HOK.out.few; omega) (by rw [op5_l, hn]; exact hkn)
            rw [op5_l, ← HCU, hL1] at CV
            exact CV
          clear CU HCU hL1 hi hk hb hf hym hc hrow hy
          go_upto_region 12 with (fail)
          rw [HW2.out]
          try rw [hp]
          clear e0 e1 e2 hcell
          go_wp2_with fail
          refine (HCT.out W2 HK2.out).mono ?_
          rintro e w3 ⟨S3, rfl, hk3, hm3⟩
          have HK3 := Lib.hid hk3; have HM3 := Lib.hid (HM2.out.trans hm3)
          have HP3 := Lib.hid ((hm3.block p HZ2.out HPX.out).trans HP2.out)
          have HX3 : Hid (p ∉ S3) := fun hh => (hm3.link p hh).elim HPX.out (fun h1 => by have := HZ2.out; omega)
          have HZ3 : Hid (p < w3.heap.size) := Nat.lt_of_lt_of_le HZ2.out hm3.size
          clear hk3 hm3 HCT HK2 HM2 HP2
          have FD := find5_any x S3 ((op5 r).with L1) t w3 HK3.out (by show L1.length ≤ _; have := HFW.out.1; omega)
          have HFD : Hid (Calls Tryz.prog 64 #[.pointer (some ⟨x, 0, none⟩), .string t] w3 fun e w' => e = .returned (.int .i64 (idx5 L1 t)) ∧ w3 = w') := FD
          clear FD
          go_wp2_with fail
          refine HFD.out.mono ?_
          rintro e w4 ⟨rfl, hw4⟩
          obtain rfl : w3 = w4 := hw4
          clear HFD
          rcases idx5_cases L1 t with ⟨k2, y2, hi2, hk2, hy2, hb2, hf2⟩ | ⟨hi2, hf2⟩
          · rw [hi2]
            have b3 : (0 : Int) ≤ (k2 : Int) := by omega
            have HCU2 := (updF_at (f := id) hb2 hk2 hy2).2
            have CV := cut5_any x S3 ((op5 r).with L1) k2 w3 HK3.out (by show L1.length ≤ _; have := HFW.out.1; omega) (List.getElem?_eq_some_iff.1 hk2).1
            obtain ⟨L2, hL2⟩ : ∃ L2, cutF t L1 = L2 := ⟨_, rfl⟩
            have e9 : L1.take k2 ++ L1.drop (k2 + 1) = L2 := HCU2.symm.trans hL2
            have HFW2 : Hid (L2.length ≤ 50000 ∧ ∀ z ∈ L2, z.name.size ≤ 9223372036854775807) := by
              show _ ∧ _
              rw [← e9]
              refine ⟨by rw [List.length_append, List.length_take, List.length_drop]; have := HFW.out.1; omega, fun z hz => ?_⟩
              rcases List.mem_append.1 hz with h1 | h1
              · exact HFW.out.2 z (List.mem_of_mem_take h1)
              · exact HFW.out.2 z (List.mem_of_mem_drop h1)
            have HCT2 : Hid (Calls Tryz.prog 168 #[.pointer (some ⟨x, 0, none⟩), .int .i64 k2] w3 fun e w' => ∃ S', e = .returned (.tuple #[]) ∧ D5At x S' ((op5 r).with L2) w' ∧ Mv S3 S' w3 w') := by
              have CV' : Calls Tryz.prog 168 #[.pointer (some ⟨x, 0, none⟩), .int .i64 k2] w3 fun e w' => ∃ S', e = .returned (.tuple #[]) ∧ D5At x S' ((op5 r).with (L1.take k2 ++ L1.drop (k2 + 1))) w' ∧ Mv S3 S' w3 w' := CV
              rw [e9] at CV'
              exact CV'
            have HL2 := Lib.hid hL2
            have HF2 := Lib.hid hf2
            clear CV HCU2 e9 hL2 hi2 hk2 hy2 hb2 hf2
            go_wp2_with fail
            refine HCT2.out.mono ?_
            rintro e w4 ⟨S4, rfl, hk4, hm4⟩
            have HK4 := Lib.hid hk4; have HM4 := Lib.hid (HM3.out.trans hm4)
            have HP4 := Lib.hid ((hm4.block p HZ3.out HX3.out).trans HP3.out)
            have HX4 : Hid (p ∉ S4) := fun hh => (hm4.link p hh).elim HX3.out (fun h1 => by have := HZ3.out; omega)
            clear hk4 hm4 HCT2 HK3 HM3 HP3
            have pc0 : w4.cell? ⟨p, 0, none⟩ = some (.string y.name) := by rw [Lib.cell_of_heap HP4.out]; rfl
            have pf0 : w4.frozen? ⟨p, 0, none⟩ = false := Lib.frozen_of_heap HP4.out 0
            obtain ⟨W5, HW5⟩ : ∃ W, Hid (w4.setCell ⟨p, 0, none⟩ (.string t) = W) := ⟨_, rfl⟩
            have HK5 : Hid (D5At x S4 ((op5 r).with L2) W5) := by
              show D5At _ _ _ _
              rw [← HW5.out]
              exact HK4.out.keep (fun q hq => Below.heap_setCell _ _ _ _ (fun e => HX4.out (by obtain rfl : q = p := e; exact hq)))
            have HP5 : Hid (W5.heap[p]? = some (.cells #[.string t, .string y.data, .int .i64 y.safe] 121 (0, 0))) := by
              show _ = _
              rw [← HW5.out]
              exact Blk.set_ (show Blk w4 p 121 _ from HP4.out) 0 _
            have hW5 := HW5.out
            have pd0 : W5.cell? ⟨p, 0, none⟩ = some (.string t) := by rw [Lib.cell_of_heap HP5.out]; rfl
            have pd1 : W5.cell? ⟨p, 1, none⟩ = some (.string y.data) := by rw [Lib.cell_of_heap HP5.out]; rfl
            have pd2 : W5.cell? ⟨p, 2, none⟩ = some (.int .i64 y.safe) := by rw [Lib.cell_of_heap HP5.out]; rfl
            have PT := put5_any x S4 ((op5 r).with L2) ⟨t, y.data, y.safe⟩ W5 HK5.out (by show L2.length ≤ _; have := HFW2.out.1; omega) (by show ∀ z ∈ L2, _; exact HFW2.out.2) ht
            have HPT : Hid (Calls Tryz.prog 65 #[.pointer (some ⟨x, 0, none⟩), .agg #[.string t, .string y.data, .int .i64 y.safe]] W5 fun e w' => ∃ S', e = .returned (.tuple #[]) ∧ D5At x S' ((op5 r).with (insK L2 ⟨t, y.data, y.safe⟩)) w' ∧ Mv S4 S' W5 w') := PT
            have HM5 : Hid (Mv S S4 w W5) := by
              show Mv _ _ _ _
              rw [← HW5.out]
              exact ⟨HM4.out.os, HM4.out.tape, HM4.out.output, (by rw [show (w4.setCell ⟨p, 0, none⟩ (.string t)).heap.size = w4.heap.size by simp [World.setCell]]; exact HM4.out.size), fun q hq hn => by
                by_cases e : q = p
                · subst e; exact absurd hq (by have := HPW.out; omega)
                · exact (Below.heap_setCell _ _ _ _ e).trans (HM4.out.block q hq hn), HM4.out.link⟩
            clear PT
            go_upto_region 17 with (fail)
            try rw [HW5.out]
            clear pc0 pf0 hW5
            go_wp2_with fail
            refine HPT.out.mono ?_
            rintro e w6 ⟨S6, rfl, hk6, hm6⟩
            have HK6 := Lib.hid hk6; have HM6 := Lib.hid (HM5.out.trans hm6)
            clear hk6 hm6 HPT
            go_wp2
            go_ret
            refine ⟨S6, by rw [(Prod.mk.inj HQ.out).1]; rfl, ?_, HM6.out⟩
            rw [(Prod.mk.inj HQ.out).2]
            have HMO : moved r.l y t = insK L2 ⟨t, y.data, y.safe⟩ := by
              unfold moved
              rw [HYN.out, HL1.out]
              rw [if_pos (by rw [HF2.out]; rfl), HL2.out]
            rw [HMO]
            exact HK6.out
          · rw [hi2]
            have HF2 := Lib.hid hf2
            clear hi2 hf2
            have pc0 : w3.cell? ⟨p, 0, none⟩ = some (.string y.name) := by rw [Lib.cell_of_heap HP3.out]; rfl
            have pf0 : w3.frozen? ⟨p, 0, none⟩ = false := Lib.frozen_of_heap HP3.out 0
            obtain ⟨W5, HW5⟩ : ∃ W, Hid (w3.setCell ⟨p, 0, none⟩ (.string t) = W) := ⟨_, rfl⟩
            have HK5 : Hid (D5At x S3 ((op5 r).with L1) W5) := by
              show D5At _ _ _ _
              rw [← HW5.out]
              exact HK3.out.keep (fun q hq => Below.heap_setCell _ _ _ _ (fun e => HX3.out (by obtain rfl : q = p := e; exact hq)))
            have HP5 : Hid (W5.heap[p]? = some (.cells #[.string t, .string y.data, .int .i64 y.safe] 121 (0, 0))) := by
              show _ = _
              rw [← HW5.out]
              exact Blk.set_ (show Blk w3 p 121 _ from HP3.out) 0 _
            have hW5 := HW5.out
            have pd0 : W5.cell? ⟨p, 0, none⟩ = some (.string t) := by rw [Lib.cell_of_heap HP5.out]; rfl
            have pd1 : W5.cell? ⟨p, 1, none⟩ = some (.string y.data) := by rw [Lib.cell_of_heap HP5.out]; rfl
            have pd2 : W5.cell? ⟨p, 2, none⟩ = some (.int .i64 y.safe) := by rw [Lib.cell_of_heap HP5.out]; rfl
            have PT := put5_any x S3 ((op5 r).with L1) ⟨t, y.data, y.safe⟩ W5 HK5.out (by show L1.length ≤ _; have := HFW.out.1; omega) (by show ∀ z ∈ L1, _; exact HFW.out.2) ht
            have HPT : Hid (Calls Tryz.prog 65 #[.pointer (some ⟨x, 0, none⟩), .agg #[.string t, .string y.data, .int .i64 y.safe]] W5 fun e w' => ∃ S', e = .returned (.tuple #[]) ∧ D5At x S' ((op5 r).with (insK L1 ⟨t, y.data, y.safe⟩)) w' ∧ Mv S3 S' W5 w') := PT
            have HM5 : Hid (Mv S S3 w W5) := by
              show Mv _ _ _ _
              rw [← HW5.out]
              exact ⟨HM3.out.os, HM3.out.tape, HM3.out.output, (by rw [show (w3.setCell ⟨p, 0, none⟩ (.string t)).heap.size = w3.heap.size by simp [World.setCell]]; exact HM3.out.size), fun q hq hn => by
                by_cases e : q = p
                · subst e; exact absurd hq (by have := HPW.out; omega)
                · exact (Below.heap_setCell _ _ _ _ e).trans (HM3.out.block q hq hn), HM3.out.link⟩
            clear PT
            go_upto_region 17 with (fail)
            try rw [HW5.out]
            clear pc0 pf0 hW5
            go_wp2_with fail
            refine HPT.out.mono ?_
            rintro e w6 ⟨S6, rfl, hk6, hm6⟩
            have HK6 := Lib.hid hk6; have HM6 := Lib.hid (HM5.out.trans hm6)
            clear hk6 hm6 HPT
            go_wp2
            go_ret
            refine ⟨S6, by rw [(Prod.mk.inj HQ.out).1]; rfl, ?_, HM6.out⟩
            rw [(Prod.mk.inj HQ.out).2]
            have HMO : moved r.l y t = insK L1 ⟨t, y.data, y.safe⟩ := by
              unfold moved
              rw [HYN.out, HL1.out]
              rw [if_neg (by rw [HF2.out]; decide)]
            rw [HMO]
            exact HK6.out
  · rw [hi]
    cases sb
    · have HQ := Lib.hid (HER.out.symm.trans (by unfold rename5; rw [if_neg (by rw [HSB.out]; decide)]))
      go_wp2
      go_ret
      refine ⟨S, by rw [(Prod.mk.inj HQ.out).1]; rfl, by rw [(Prod.mk.inj HQ.out).2]; exact HK1.out, HM1.out⟩
    · have HQ := Lib.hid (HER.out.symm.trans (show rename5 r s t = (7, op5 r) from by unfold rename5; rw [if_pos HSB.out, hf]))
      go_wp2
      go_ret
      refine ⟨S, by rw [(Prod.mk.inj HQ.out).1]; rfl, by rw [(Prod.mk.inj HQ.out).2]; exact HK1.out, HM1.out⟩
end Go.Proofs.YtfmbadinfhpihaaGreat
