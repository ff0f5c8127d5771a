/-
  Chapter 6's same as a contract: the program's disk and the document's have the same files.
  Conditions: two disks that agree.
-/
import Derived.Test.YtfmbadinfhpihaaGreatL5c
import Derived.Test.YtfmbadinfhpihaaGreatBuilder
set_option linter.unusedVariables false
set_option linter.unusedSimpArgs false
namespace Go.Proofs.YtfmbadinfhpihaaGreat
open Go.RowKit Go.Maps
attribute [local go_sem ↓] Go.wp_at_zero Go.wp_at_succ
set_option maxRecDepth 100000

theorem sameB_refl5 (a : List ByteArray) : sameB a a = true := by simp [sameB]
set_option maxHeartbeats 16000000 in
theorem same6_any (c b x : Nat) (S : List Nat) (st : Dk) (r : D5) (w : World) (hd : DkAt c b st w) (hk : D5At x S r w) (ha : Agree5 st r) :
    Calls Tryz.prog 32 #[.pointer (some ⟨c, 0, none⟩), .pointer (some ⟨x, 0, none⟩)] w fun e w' => e = .returned (.bool true) ∧ Below w.heap.size w w' := by
  have FI := files_any c b st ha.ok w hd
  have hnames := ha.fs.names
  have hlen := ha.len
  obtain ⟨L, hL⟩ : ∃ L, lstS st.fs = L := ⟨_, rfl⟩
  rw [hL] at FI hnames
  have hll : L.length = r.l.length := by rw [← hnames, List.length_map]
  obtain ⟨n, hn⟩ : ∃ n, L.length = n := ⟨_, rfl⟩
  rw [hn] at FI hll
  have hnl : ∀ s ∈ L, s.size ≤ 40 := fun s hs => ha.nm s (by rw [← hL] at hs; exact (mem_lstS ha.ok.good.keys s).1 hs)
  have hon := ha.on; have hops := ha.ops
  obtain ⟨on, hon2⟩ : ∃ o, st.on = o := ⟨_, rfl⟩
  obtain ⟨ops, hops2⟩ : ∃ o, st.ops = o := ⟨_, rfl⟩
  have HFI := Lib.hid FI; have HNA := Lib.hid hnames; have HLL := Lib.hid hll; have HN := Lib.hid hn; have HD := Lib.hid hd; have HK := Lib.hid hk; have HA := Lib.hid ha; have HNL := Lib.hid hnl
  have HON : Hid (r.on = on ∧ st.on = on) := ⟨hon.trans hon2, hon2⟩
  have HOPS : Hid (r.ops = ops ∧ st.ops = ops) := ⟨hops.trans hops2, hops2⟩
  have hn40 : n ≤ 40 := by omega
  clear FI hnames hll hn hd hk ha hnl hL hlen hon hops hon2 hops2
  go_enter Tryz.func32, Tryz.ntmps32
  go_wp2_with fail
  refine HFI.out.mono ?_
  rintro e w1 ⟨A1, c1, rfl, hr1, _, hb1⟩
  have HR1 := Lib.hid hr1; have HB1 := Lib.hid hb1
  have HD1 : Hid (DkAt c b st w1) := HD.out.below hb1 HD.out.lt HD.out.ltb
  have HK1 := Lib.hid (HK.out.below hb1)
  have HF5 : Hid (∀ W, Below w1.heap.size w1 W → Calls Tryz.prog 71 #[.pointer (some ⟨x, 0, none⟩)] W fun e w' => ∃ A c, e = .returned (.slice A n c) ∧ Reads w' w'.heap.size 1 A n (strs L) ∧ Below W.heap.size W w') := fun W hW => by
    have h := files5_any x S r W (HK1.out.below hW) (by have := HLL.out; omega)
    rw [← HLL.out, HNA.out] at h
    exact h
  have HSA : Hid (∀ (A2 : Option Addr) (c2 : Nat) (W : World), Below w1.heap.size w1 W → Reads W W.heap.size 1 A2 n (strs L) → Calls Tryz.prog 18 #[.slice A1 n c1, .slice A2 n c2] W fun e w' => e = .returned (.bool true) ∧ Below W.heap.size W w') := fun A2 c2 W hW hr => by
    have h := same_any L L A1 A2 c1 c2 W.heap.size W (by rw [HN.out]; exact (HR1.out.below hW).more hW.size) (by rw [HN.out]; exact hr) (by rw [HN.out]; omega) (by rw [HN.out]; omega)
    rw [HN.out, sameB_refl5] at h
    refine h.mono ?_
    rintro e w' ⟨g1, q, rfl⟩
    exact ⟨g1, drewN_below (Below.refl _ _) q⟩
  have HO6 : Hid (∀ W, Below w1.heap.size w1 W → Calls Tryz.prog 72 #[.pointer (some ⟨c, 0, none⟩)] W fun e w' => e = .returned (.bool on) ∧ W = w') := fun W hW => by
    have h := on_any c b st W (HD1.out.below hW HD1.out.lt HD1.out.ltb)
    rw [HON.out.2] at h
    exact h
  have HP6 : Hid (∀ W, Below w1.heap.size w1 W → Calls Tryz.prog 21 #[.pointer (some ⟨c, 0, none⟩)] W fun e w' => e = .returned (.int .i64 ops) ∧ W = w') := fun W hW => by
    have h := ops_any c b st W (HD1.out.below hW HD1.out.lt HD1.out.ltb)
    rw [HOPS.out.2] at h
    exact h
  have HS6 : Hid (∀ W, Below w1.heap.size w1 W → W.cell? ⟨x, 0, none⟩ = some (.bool on) ∧ W.cell? ⟨x, 2, none⟩ = some (.int .i64 ops)) := fun W hW => by
    have h := HK1.out.below hW
    have h1 := h.cell0; have h2 := h.cell2
    rw [HON.out.1] at h1
    rw [HOPS.out.1] at h2
    exact ⟨h1, h2⟩
  have BX0 : Hid (Below w1.heap.size w1 w1.drew) := (Below.refl _ _).drew
  clear hr1 hb1 HFI
  go_wp2
  refine wp_region_held_drew (S := fun Y => Y.cell? ⟨x, 0, none⟩ = some (.bool on) ∧ Y.cell? ⟨x, 2, none⟩ = some (.int .i64 ops)) (by kernel_rfl) (HS6.out _ BX0.out) (fun hHeld => ?_)
  refine wpAnyH_take (i := 0) (v := ?_) rfl (by kernel_rfl) (by kernel_rfl) (by kernel_rfl) (fun _ _ _ h => h) (Or.inl ⟨by rfl, ?_⟩) (by assumption) ?_
  rotate_left
  · intro X hSw; (try dsimp only at hSw); obtain ⟨s1, s2⟩ := hSw; (try simp only [List.getElem_toArray, List.getElem_cons_succ, List.getElem_cons_zero]); first | (go_simp; done) | (go_simp; with_reducible rfl)
  try simp only [Act.put, List.setIfInBounds_toArray, List.set_cons_zero, List.set_cons_succ, List.getElem_toArray, List.getElem_cons_succ, List.getElem_cons_zero]
  refine wpAnyH_take (i := 1) (v := ?_) rfl (by kernel_rfl) (by kernel_rfl) (by kernel_rfl) (fun _ _ _ h => h) (Or.inl ⟨by rfl, ?_⟩) (by assumption) ?_
  rotate_left
  · intro X hSw; (try dsimp only at hSw); obtain ⟨s1, s2⟩ := hSw; (try simp only [List.getElem_toArray, List.getElem_cons_succ, List.getElem_cons_zero]); first | (go_simp; done) | (go_simp; with_reducible rfl)
  try simp only [Act.put, List.setIfInBounds_toArray, List.set_cons_zero, List.set_cons_succ, List.getElem_toArray, List.getElem_cons_succ, List.getElem_cons_zero]
  refine wpAnyH_ready (rs := [2]) (by kernel_rfl) (by simp) (AllReadyH.cons rfl (fun K hK => ?_) AllReadyH.nil)
  try simp only [List.getElem_toArray, List.getElem_cons_succ, List.getElem_cons_zero]
  go_simp
  refine (HF5.out _ BX0.out).mono ?_
  rintro e w2 ⟨A2, c2, rfl, hr2, hb2⟩
  have BX2 : Hid (Below w1.heap.size w1 w2) := BX0.out.trans (hb2.mono BX0.out.size)
  have HR2 := Lib.hid hr2
  clear hr2 hb2
  refine hK.out _ _ (HS6.out _ BX2.out) (fun hHeld => ?_)
  clear hK K
  try simp only [Act.put, List.setIfInBounds_toArray, List.set_cons_zero, List.set_cons_succ, List.getElem_toArray, List.getElem_cons_succ, List.getElem_cons_zero]
  refine wpAnyH_ready (rs := [3]) (by kernel_rfl) (by simp) (AllReadyH.cons rfl (fun K hK => ?_) AllReadyH.nil)
  try simp only [List.getElem_toArray, List.getElem_cons_succ, List.getElem_cons_zero]
  go_simp
  refine (HSA.out _ _ _ BX2.out HR2.out).mono ?_
  rintro e w3 ⟨rfl, hb3⟩
  have BX3 : Hid (Below w1.heap.size w1 w3) := BX2.out.trans (hb3.mono BX2.out.size)
  clear hb3
  refine hK.out _ _ (HS6.out _ BX3.out) (fun hHeld => ?_)
  clear hK K
  try simp only [Act.put, List.setIfInBounds_toArray, List.set_cons_zero, List.set_cons_succ, List.getElem_toArray, List.getElem_cons_succ, List.getElem_cons_zero]
  refine wpAnyH_take (i := 4) (v := ?_) rfl (by kernel_rfl) (by kernel_rfl) (by kernel_rfl) (fun _ _ _ h => h) (Or.inl ⟨by rfl, ?_⟩) (by assumption) ?_
  rotate_left
  · intro X hSw; (try dsimp only at hSw); obtain ⟨s1, s2⟩ := hSw; (try simp only [List.getElem_toArray, List.getElem_cons_succ, List.getElem_cons_zero]); first | (go_simp; done) | (go_simp; with_reducible rfl)
  try simp only [Act.put, List.setIfInBounds_toArray, List.set_cons_zero, List.set_cons_succ, List.getElem_toArray, List.getElem_cons_succ, List.getElem_cons_zero]
  refine wpAnyH_take (i := 5) (v := ?_) rfl (by kernel_rfl) (by kernel_rfl) (by kernel_rfl) (fun _ _ _ h => h) (Or.inl ⟨by rfl, ?_⟩) (by assumption) ?_
  rotate_left
  · intro X hSw; (try dsimp only at hSw); obtain ⟨s1, s2⟩ := hSw; (try simp only [List.getElem_toArray, List.getElem_cons_succ, List.getElem_cons_zero]); first | (go_simp; done) | (go_simp; with_reducible rfl)
  try simp only [Act.put, List.setIfInBounds_toArray, List.set_cons_zero, List.set_cons_succ, List.getElem_toArray, List.getElem_cons_succ, List.getElem_cons_zero]
  refine wpAnyH_take (i := 6) (v := ?_) rfl (by kernel_rfl) (by kernel_rfl) (by kernel_rfl) (fun _ _ _ h => h) (Or.inl ⟨by rfl, ?_⟩) (by assumption) ?_
  rotate_left
  · intro X hSw; (try dsimp only at hSw); obtain ⟨s1, s2⟩ := hSw; (try simp only [List.getElem_toArray, List.getElem_cons_succ, List.getElem_cons_zero]); first | (go_simp; done) | (go_simp; with_reducible rfl)
  try simp only [Act.put, List.setIfInBounds_toArray, List.set_cons_zero, List.set_cons_succ, List.getElem_toArray, List.getElem_cons_succ, List.getElem_cons_zero]
  refine wpAnyH_take (i := 7) (v := ?_) rfl (by kernel_rfl) (by kernel_rfl) (by kernel_rfl) (fun _ _ _ h => h) (Or.inl ⟨by rfl, ?_⟩) (by assumption) ?_
  rotate_left
  · intro X hSw; (try dsimp only at hSw); obtain ⟨s1, s2⟩ := hSw; (try simp only [List.getElem_toArray, List.getElem_cons_succ, List.getElem_cons_zero]); first | (go_simp; done) | (go_simp; with_reducible rfl)
  try simp only [Act.put, List.setIfInBounds_toArray, List.set_cons_zero, List.set_cons_succ, List.getElem_toArray, List.getElem_cons_succ, List.getElem_cons_zero]
  refine wpAnyH_take (i := 8) (v := ?_) rfl (by kernel_rfl) (by kernel_rfl) (by kernel_rfl) (fun _ _ _ h => h) (Or.inl ⟨by rfl, ?_⟩) (by assumption) ?_
  rotate_left
  · intro X hSw; (try dsimp only at hSw); obtain ⟨s1, s2⟩ := hSw; (try simp only [List.getElem_toArray, List.getElem_cons_succ, List.getElem_cons_zero]); first | (go_simp; done) | (go_simp; with_reducible rfl)
  try simp only [Act.put, List.setIfInBounds_toArray, List.set_cons_zero, List.set_cons_succ, List.getElem_toArray, List.getElem_cons_succ, List.getElem_cons_zero]
  refine wpAnyH_take (i := 10) (v := ?_) rfl (by kernel_rfl) (by kernel_rfl) (by kernel_rfl) (fun _ _ _ h => h) (Or.inl ⟨by rfl, ?_⟩) (by assumption) ?_
  rotate_left
  · intro X hSw; (try dsimp only at hSw); obtain ⟨s1, s2⟩ := hSw; (try simp only [List.getElem_toArray, List.getElem_cons_succ, List.getElem_cons_zero]); first | (go_simp; done) | (go_simp; with_reducible rfl)
  try simp only [Act.put, List.setIfInBounds_toArray, List.set_cons_zero, List.set_cons_succ, List.getElem_toArray, List.getElem_cons_succ, List.getElem_cons_zero]
  refine wpAnyH_take (i := 11) (v := ?_) rfl (by kernel_rfl) (by kernel_rfl) (by kernel_rfl) (fun _ _ _ h => h) (Or.inl ⟨by rfl, ?_⟩) (by assumption) ?_
  rotate_left
  · intro X hSw; (try dsimp only at hSw); obtain ⟨s1, s2⟩ := hSw; (try simp only [List.getElem_toArray, List.getElem_cons_succ, List.getElem_cons_zero]); first | (go_simp; done) | (go_simp; with_reducible rfl)
  try simp only [Act.put, List.setIfInBounds_toArray, List.set_cons_zero, List.set_cons_succ, List.getElem_toArray, List.getElem_cons_succ, List.getElem_cons_zero]
  refine wpAnyH_take (i := 12) (v := ?_) rfl (by kernel_rfl) (by kernel_rfl) (by kernel_rfl) (fun _ _ _ h => h) (Or.inl ⟨by rfl, ?_⟩) (by assumption) ?_
  rotate_left
  · intro X hSw; (try dsimp only at hSw); obtain ⟨s1, s2⟩ := hSw; (try simp only [List.getElem_toArray, List.getElem_cons_succ, List.getElem_cons_zero]); first | (go_simp; done) | (go_simp; with_reducible rfl)
  try simp only [Act.put, List.setIfInBounds_toArray, List.set_cons_zero, List.set_cons_succ, List.getElem_toArray, List.getElem_cons_succ, List.getElem_cons_zero]
  refine wpAnyH_take (i := 13) (v := ?_) rfl (by kernel_rfl) (by kernel_rfl) (by kernel_rfl) (fun _ _ _ h => h) (Or.inl ⟨by rfl, ?_⟩) (by assumption) ?_
  rotate_left
  · intro X hSw; (try dsimp only at hSw); obtain ⟨s1, s2⟩ := hSw; (try simp only [List.getElem_toArray, List.getElem_cons_succ, List.getElem_cons_zero]); first | (go_simp; done) | (go_simp; with_reducible rfl)
  try simp only [Act.put, List.setIfInBounds_toArray, List.set_cons_zero, List.set_cons_succ, List.getElem_toArray, List.getElem_cons_succ, List.getElem_cons_zero]
  refine wpAnyH_ready (rs := [9]) (by kernel_rfl) (by simp) (AllReadyH.cons rfl (fun K hK => ?_) AllReadyH.nil)
  try simp only [List.getElem_toArray, List.getElem_cons_succ, List.getElem_cons_zero]
  go_simp
  refine (HO6.out _ BX3.out).mono ?_
  rintro e w4 ⟨rfl, hw4⟩
  obtain rfl : w3 = w4 := hw4
  refine hK.out _ _ (HS6.out _ BX3.out) (fun hHeld => ?_)
  clear hK K
  try simp only [Act.put, List.setIfInBounds_toArray, List.set_cons_zero, List.set_cons_succ, List.getElem_toArray, List.getElem_cons_succ, List.getElem_cons_zero]
  refine wpAnyH_take (i := 14) (v := ?_) rfl (by kernel_rfl) (by kernel_rfl) (by kernel_rfl) (fun _ _ _ h => h) (Or.inl ⟨by rfl, ?_⟩) (by assumption) ?_
  rotate_left
  · intro X hSw; (try dsimp only at hSw); obtain ⟨s1, s2⟩ := hSw; (try simp only [List.getElem_toArray, List.getElem_cons_succ, List.getElem_cons_zero]); first | (go_simp; done) | (go_simp; with_reducible rfl)
  try simp only [Act.put, List.setIfInBounds_toArray, List.set_cons_zero, List.set_cons_succ, List.getElem_toArray, List.getElem_cons_succ, List.getElem_cons_zero]
  refine wpAnyH_take (i := 15) (v := ?_) rfl (by kernel_rfl) (by kernel_rfl) (by kernel_rfl) (fun _ _ _ h => h) (Or.inl ⟨by rfl, ?_⟩) (by assumption) ?_
  rotate_left
  · intro X hSw; (try dsimp only at hSw); obtain ⟨s1, s2⟩ := hSw; (try simp only [List.getElem_toArray, List.getElem_cons_succ, List.getElem_cons_zero]); first | (go_simp; done) | (go_simp; with_reducible rfl)
  try simp only [Act.put, List.setIfInBounds_toArray, List.set_cons_zero, List.set_cons_succ, List.getElem_toArray, List.getElem_cons_succ, List.getElem_cons_zero]
  refine wpAnyH_take (i := 16) (v := ?_) rfl (by kernel_rfl) (by kernel_rfl) (by kernel_rfl) (fun _ _ _ h => h) (Or.inl ⟨by rfl, ?_⟩) (by assumption) ?_
  rotate_left
  · intro X hSw; (try dsimp only at hSw); obtain ⟨s1, s2⟩ := hSw; (try simp only [List.getElem_toArray, List.getElem_cons_succ, List.getElem_cons_zero]); first | (go_simp; done) | (go_simp; with_reducible rfl)
  try simp only [Act.put, List.setIfInBounds_toArray, List.set_cons_zero, List.set_cons_succ, List.getElem_toArray, List.getElem_cons_succ, List.getElem_cons_zero]
  refine wpAnyH_take (i := 17) (v := ?_) rfl (by kernel_rfl) (by kernel_rfl) (by kernel_rfl) (fun _ _ _ h => h) (Or.inl ⟨by rfl, ?_⟩) (by assumption) ?_
  rotate_left
  · intro X hSw; (try dsimp only at hSw); obtain ⟨s1, s2⟩ := hSw; (try simp only [List.getElem_toArray, List.getElem_cons_succ, List.getElem_cons_zero]); first | (go_simp; done) | (go_simp; with_reducible rfl)
  try simp only [Act.put, List.setIfInBounds_toArray, List.set_cons_zero, List.set_cons_succ, List.getElem_toArray, List.getElem_cons_succ, List.getElem_cons_zero]
  refine wpAnyH_take (i := 18) (v := ?_) rfl (by kernel_rfl) (by kernel_rfl) (by kernel_rfl) (fun _ _ _ h => h) (Or.inl ⟨by rfl, ?_⟩) (by assumption) ?_
  rotate_left
  · intro X hSw; (try dsimp only at hSw); obtain ⟨s1, s2⟩ := hSw; (try simp only [List.getElem_toArray, List.getElem_cons_succ, List.getElem_cons_zero]); first | (go_simp; done) | (go_simp; with_reducible rfl)
  try simp only [Act.put, List.setIfInBounds_toArray, List.set_cons_zero, List.set_cons_succ, List.getElem_toArray, List.getElem_cons_succ, List.getElem_cons_zero]
  refine wpAnyH_take (i := 19) (v := ?_) rfl (by kernel_rfl) (by kernel_rfl) (by kernel_rfl) (fun _ _ _ h => h) (Or.inl ⟨by rfl, ?_⟩) (by assumption) ?_
  rotate_left
  · intro X hSw; (try dsimp only at hSw); obtain ⟨s1, s2⟩ := hSw; (try simp only [List.getElem_toArray, List.getElem_cons_succ, List.getElem_cons_zero]); first | (go_simp; done) | (go_simp; with_reducible rfl)
  try simp only [Act.put, List.setIfInBounds_toArray, List.set_cons_zero, List.set_cons_succ, List.getElem_toArray, List.getElem_cons_succ, List.getElem_cons_zero]
  refine wpAnyH_take (i := 21) (v := ?_) rfl (by kernel_rfl) (by kernel_rfl) (by kernel_rfl) (fun _ _ _ h => h) (Or.inl ⟨by rfl, ?_⟩) (by assumption) ?_
  rotate_left
  · intro X hSw; (try dsimp only at hSw); obtain ⟨s1, s2⟩ := hSw; (try simp only [List.getElem_toArray, List.getElem_cons_succ, List.getElem_cons_zero]); first | (go_simp; done) | (go_simp; with_reducible rfl)
  try simp only [Act.put, List.setIfInBounds_toArray, List.set_cons_zero, List.set_cons_succ, List.getElem_toArray, List.getElem_cons_succ, List.getElem_cons_zero]
  refine wpAnyH_take (i := 22) (v := ?_) rfl (by kernel_rfl) (by kernel_rfl) (by kernel_rfl) (fun _ _ _ h => h) (Or.inl ⟨by rfl, ?_⟩) (by assumption) ?_
  rotate_left
  · intro X hSw; (try dsimp only at hSw); obtain ⟨s1, s2⟩ := hSw; (try simp only [List.getElem_toArray, List.getElem_cons_succ, List.getElem_cons_zero]); first | (go_simp; done) | (go_simp; with_reducible rfl)
  try simp only [Act.put, List.setIfInBounds_toArray, List.set_cons_zero, List.set_cons_succ, List.getElem_toArray, List.getElem_cons_succ, List.getElem_cons_zero]
  refine wpAnyH_take (i := 23) (v := ?_) rfl (by kernel_rfl) (by kernel_rfl) (by kernel_rfl) (fun _ _ _ h => h) (Or.inl ⟨by rfl, ?_⟩) (by assumption) ?_
  rotate_left
  · intro X hSw; (try dsimp only at hSw); obtain ⟨s1, s2⟩ := hSw; (try simp only [List.getElem_toArray, List.getElem_cons_succ, List.getElem_cons_zero]); first | (go_simp; done) | (go_simp; with_reducible rfl)
  try simp only [Act.put, List.setIfInBounds_toArray, List.set_cons_zero, List.set_cons_succ, List.getElem_toArray, List.getElem_cons_succ, List.getElem_cons_zero]
  refine wpAnyH_take (i := 24) (v := ?_) rfl (by kernel_rfl) (by kernel_rfl) (by kernel_rfl) (fun _ _ _ h => h) (Or.inl ⟨by rfl, ?_⟩) (by assumption) ?_
  rotate_left
  · intro X hSw; (try dsimp only at hSw); obtain ⟨s1, s2⟩ := hSw; (try simp only [List.getElem_toArray, List.getElem_cons_succ, List.getElem_cons_zero]); first | (go_simp; done) | (go_simp; with_reducible rfl)
  try simp only [Act.put, List.setIfInBounds_toArray, List.set_cons_zero, List.set_cons_succ, List.getElem_toArray, List.getElem_cons_succ, List.getElem_cons_zero]
  refine wpAnyH_ready (rs := [20]) (by kernel_rfl) (by simp) (AllReadyH.cons rfl (fun K hK => ?_) AllReadyH.nil)
  try simp only [List.getElem_toArray, List.getElem_cons_succ, List.getElem_cons_zero]
  go_simp
  refine (HP6.out _ BX3.out).mono ?_
  rintro e w5 ⟨rfl, hw5⟩
  obtain rfl : w3 = w5 := hw5
  refine hK.out _ _ (HS6.out _ BX3.out) (fun hHeld => ?_)
  clear hK K
  try simp only [Act.put, List.setIfInBounds_toArray, List.set_cons_zero, List.set_cons_succ, List.getElem_toArray, List.getElem_cons_succ, List.getElem_cons_zero]
  refine wpAnyH_take (i := 25) (v := ?_) rfl (by kernel_rfl) (by kernel_rfl) (by kernel_rfl) (fun _ _ _ h => h) (Or.inl ⟨by rfl, ?_⟩) (by assumption) ?_
  rotate_left
  · intro X hSw; (try dsimp only at hSw); obtain ⟨s1, s2⟩ := hSw; (try simp only [List.getElem_toArray, List.getElem_cons_succ, List.getElem_cons_zero]); first | (go_simp; done) | (go_simp; with_reducible rfl)
  try simp only [Act.put, List.setIfInBounds_toArray, List.set_cons_zero, List.set_cons_succ, List.getElem_toArray, List.getElem_cons_succ, List.getElem_cons_zero]
  refine wpAnyH_take (i := 26) (v := ?_) rfl (by kernel_rfl) (by kernel_rfl) (by kernel_rfl) (fun _ _ _ h => h) (Or.inl ⟨by rfl, ?_⟩) (by assumption) ?_
  rotate_left
  · intro X hSw; (try dsimp only at hSw); obtain ⟨s1, s2⟩ := hSw; (try simp only [List.getElem_toArray, List.getElem_cons_succ, List.getElem_cons_zero]); first | (go_simp; done) | (go_simp; with_reducible rfl)
  try simp only [Act.put, List.setIfInBounds_toArray, List.set_cons_zero, List.set_cons_succ, List.getElem_toArray, List.getElem_cons_succ, List.getElem_cons_zero]
  refine wpAnyH_done (by kernel_rfl) ?_ _
  have BX5 := BX3
  have HBX := BX5
  go_wp2
  go_loopw [6, 7, 8, 9, 10] (fun i _ _ _ _ wr => ∃ k : Nat, k ≤ n ∧ i = .int .i64 k ∧ Hid (Below w1.heap.size w1 wr)) (fun i _ _ _ _ _ => n - (intOf i).toNat)
  case atStart => exact ⟨0, Nat.zero_le _, rfl, HBX.out⟩
  case round =>
    obtain ⟨k, hk, rfl, HB⟩ := hrel
    have b1 : (0 : Int) ≤ (k : Int) := by omega
    by_cases hlt : k < n
    · obtain ⟨ad, s, rfl, hab, hsk, hcell⟩ := str_at ((HR1.out.below HB.out).more HB.out.size) hlt
      have hs : s.size ≤ 9223372036854775807 := by have := HNL.out s (List.mem_of_getElem? hsk); omega
      have b2 : (k : Int) < (n : Int) := by omega
      have RA := read_any c b st HA.out.ok.good s hs wr (HD1.out.below HB.out HD1.out.lt HD1.out.ltb)
      have HRB : Hid (∀ W, Below w1.heap.size w1 W → Calls Tryz.prog 66 #[.pointer (some ⟨x, 0, none⟩), .string s] W fun e w' => e = .returned (.tuple #[.string (readD st s).1, .int .i64 (readD st s).2]) ∧ W = w') := fun W hW => by
        have h := read5_any x S r s W (HK1.out.below hW) (by have := HLL.out; omega)
        rw [HA.out.read s] at h
        exact h
      obtain ⟨y, hy⟩ : ∃ y, (readD st s).1 = y := ⟨_, rfl⟩
      obtain ⟨ev, hev⟩ : ∃ y, (readD st s).2 = y := ⟨_, rfl⟩
      rw [hy, hev] at RA
      have HRB2 : Hid (∀ W, Below w1.heap.size w1 W → Calls Tryz.prog 66 #[.pointer (some ⟨x, 0, none⟩), .string s] W fun e w' => e = .returned (.tuple #[.string y, .int .i64 ev]) ∧ W = w') := fun W hW => by
        have h := HRB.out W hW
        rw [hy, hev] at h
        exact h
      have HRA := Lib.hid RA
      clear RA hsk hy hev HRB
      go_wp2_with fail
      refine HRA.out.mono ?_
      rintro e w5 ⟨rfl, hb5⟩
      have HB5 : Hid (Below w1.heap.size w1 w5) := HB.out.trans (hb5.mono HB.out.size)
      have hcell5 := (hb5.cell (p := ad.add k) (by rw [block_of_add]; exact hab)).trans hcell
      clear hb5 HRA
      go_wp2_with fail
      refine (HRB2.out w5 HB5.out).mono ?_
      rintro e w6 ⟨rfl, hw6⟩
      obtain rfl : w5 = w6 := hw6
      clear HRB2
      go_wp2
      go_roundw
      case rel => exact ⟨k + 1, hlt, by go_num, HB5.out⟩
      case measure => simp [intOf]; omega
    · obtain rfl : k = n := by omega
      go_wp2
      go_ret
      exact ⟨rfl, HB1.out.trans (HB.out.mono HB1.out.size)⟩
end Go.Proofs.YtfmbadinfhpihaaGreat
