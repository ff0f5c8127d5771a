/-
  The walk of NameSets: for all texts and steps it returns true, and nothing that was there has turned.
  Conditions: texts and steps within what slices and strings may have.
-/
import Derived.Test.YtlniafpbkhkkaaaGreatNs2
import Derived.Test.YtlniafpbkhkkaaaGreatNOps
import Derived.Test.YtlniafpbkhkkaaaGreatLentO
import Derived.Deep.DeepCutAuto
import Derived.Deep.CutBlock
namespace Go.Proofs.YtlniafpbkhkkaaaGreat
open Go.RowKit Go.Maps Go.Sort
attribute [local go_sem ↓] Go.wp_at_zero Go.wp_at_succ
set_option maxRecDepth 100000

theorem same_self (ss : List ByteArray) (A A' : Option Addr) (c c' n B B' : Nat) (hn : ss.length = n) (w : World) (hr : Reads w B 1 A n (strs ss)) (hr' : Reads w B' 1 A' n (strs ss)) (hB : B ≤ w.heap.size) (hB' : B' ≤ w.heap.size) (hl : n ≤ 9223372036854775807) :
    Calls Tryz.prog 9 #[.slice A n c, .slice A' n c'] w fun e w' => e = .returned (.bool true) ∧ Below w.heap.size w w' := by
  subst hn
  have h := same_any ss ss A A' c c' w.heap.size w (hr.more hB) (hr'.more hB') hl hl
  rw [sameB_self'] at h
  refine h.mono ?_
  rintro e w' ⟨rfl, q, rfl⟩
  exact ⟨rfl, drewN_below (Below.refl _ _) q⟩
theorem lent_first {l : List ByteArray} {g n B : Nat} {w : World} (hn : l.length = n) (hr : Reads w B 1 (some ⟨g, 0, none⟩) (n + 1) (strs (l ++ [markS]))) : Reads w B 1 (some ⟨g, 0, none⟩) n (strs l) := by
  subst hn
  refine ⟨by simp [strs], fun _ => ?_⟩
  obtain ⟨ad, e, hb, hc⟩ := hr.2 (by omega)
  refine ⟨ad, e, hb, fun j u hu => hc j u ?_⟩
  have e2 : strs (l ++ [markS]) = strs l ++ [.string markS] := by simp [strs]
  rw [e2, List.getElem?_append_left (List.getElem?_eq_some_iff.1 hu).1]
  exact hu
theorem reads_in {w : World} {B n : Nat} {A : Option Addr} {xs : List Value} (h : Reads w B 1 A n xs) : 0 < n → ∀ ad, A = some ad → ad.block < B := fun hn ad e => by
  obtain ⟨ad', e', hb, _⟩ := h.2 hn
  rw [e] at e'
  injection e' with e'
  subst e'
  exact hb
theorem nsets_early (ss : List ByteArray) (ow : ByteArray) (owned zero : Bool) (l : List NOp) (A B : Option Addr) (c d : Nat) (w : World) (hr : Reads w w.heap.size 1 A ss.length (strs ss)) (hl : ss.length ≤ 9223372036854775807) (hs : ∀ s ∈ ss, s.size ≤ 9223372036854775807) (hm : l.length ≤ 9223372036854775807) (h : shortB 300 9000 ss = false ∨ 200 < l.length) :
    Calls Tryz.prog 4 #[.slice A ss.length c, .string ow, .bool owned, .bool zero, .slice B l.length d] w fun e w' => e = .returned (.bool true) ∧ Below w.heap.size w w' := by
  have Hs := Lib.hid hs; have Hr := Lib.hid hr
  clear hs hr
  by_cases h1 : shortB 300 9000 ss = false
  · have Hsh := Lib.hid h1
    clear h h1
    go_enter Tryz.func4, Tryz.ntmps4
    go_wp2_with fail
    refine (short2_any ss A c _ Hr.out hl Hs.out).mono ?_
    rintro e w1 ⟨rfl, hb1⟩
    rw [Hsh.out]
    go_wp2_with fail
    refine (alive2_any _).mono ?_
    rintro e w2 ⟨rfl, hb2⟩
    go_wp2
    go_ret
    exact ⟨rfl, hb1.trans (hb2.mono hb1.size)⟩
  · have h2 : shortB 300 9000 ss = true := by simpa using h1
    have h3 : 200 < l.length := by rcases h with h | h; exact absurd h h1; exact h
    have Hsh := Lib.hid h2
    clear h h1 h2
    go_enter Tryz.func4, Tryz.ntmps4
    go_wp2_with fail
    refine (short2_any ss A c _ Hr.out hl Hs.out).mono ?_
    rintro e w1 ⟨rfl, hb1⟩
    rw [Hsh.out]
    go_wp2_with fail
    refine (alive2_any _).mono ?_
    rintro e w2 ⟨rfl, hb2⟩
    go_wp2
    go_ret
    exact ⟨rfl, hb1.trans (hb2.mono hb1.size)⟩
/-- Ahead of the book. -/
structure NsPre (w0 : World) (co bo : Nat) (ow : ByteArray) (c : Nat) (S : List Nat) (D : DataW Unit) (v : Value) (p : Nat) (w : World) : Prop where
  good : GoodS D
  set : SetF c S D w
  own : w.heap[bo]? = some (.cells #[.pointer (some ⟨co, 0, none⟩), .string ow] 56 (0, 0))
  now : w.ownsRow w0.heap.size 9 1 v p (strs (lstS D))
  len : (lstS D).length = p
  below : Below w0.heap.size w0 w
  lowS : ∀ q ∈ S, w0.heap.size ≤ q
  sz : ∀ s ∈ lstS D, s.size ≤ 9000
theorem NsPre.bolt {w0 w : World} {co bo c p : Nat} {ow : ByteArray} {S : List Nat} {D : DataW Unit} {v : Value} (h : NsPre w0 co bo ow c S D v p w) : bo < w.heap.size := Blk.lt (t := 56) h.own
theorem NsPre.bnew {w0 w w' : World} {co bo c p : Nat} {ow : ByteArray} {S : List Nat} {D : DataW Unit} {v : Value} (h : NsPre w0 co bo ow c S D v p w) (hb : Below w.heap.size w w') : NsPre w0 co bo ow c S D v p w' :=
  ⟨h.good, h.set.below hb, (hb.block bo h.bolt).trans h.own, own_below h.now hb (fun k hk => (h.now.lt k hk).2), h.len, h.below.trans (hb.mono h.below.size), h.lowS, h.sz⟩
/-- A store into a row of texts that is not the list now. -/
theorem NsPre.store {w0 w : World} {co bo c p : Nat} {ow : ByteArray} {S : List Nat} {D : DataW Unit} {v : Value} (h : NsPre w0 co bo ow c S D v p w) {g : Nat} (hk : KindAt w g 9) (hg : w0.heap.size ≤ g) (hn : v.ownBlock ≠ some g) (i : Nat) (u : Value) : NsPre w0 co bo ow c S D v p (w.setCell ⟨g, i, none⟩ u) := by
  have fin : ∀ k, k ≠ g → (w.setCell ⟨g, i, none⟩ u).heap[k]? = w.heap[k]? := fun k hk => Below.heap_setCell _ _ _ _ hk
  have hS : ∀ k ∈ S, k ≠ g := fun k hk' e => by
    subst e
    have := h.set.kind hk' hk
    revert this
    decide
  have hb : bo ≠ g := fun e => by
    subst e
    have := hk.ne ⟨_, _, h.own⟩
    revert this
    decide
  exact ⟨h.good, h.set.keep (fun k hk => fin k (hS k hk)), (fin bo hb).trans h.own, own_keep' h.now (fun q hq => fin q (fun e => hn (by rw [hq, e]))), h.len, h.below.setCell (p := ⟨g, i, none⟩) hg _, h.lowS, h.sz⟩
theorem NsPre.book {w0 w : World} {co bo c p : Nat} {ow : ByteArray} {S : List Nat} {D : DataW Unit} {v : Value} (h : NsPre w0 co bo ow c S D v p w) : NsAt w0 co bo ow w.heap.size c S D v p (.slice none 0 0) (.slice none 0 0) [] (w.alloc (.cells (bkCells (.slice none 0 0) (.slice none 0 0)) 44)) := by
  have h1 := h.bnew ((Below.refl w.heap.size w).alloc (Nat.le_refl _) (.cells (bkCells (.slice none 0 0) (.slice none 0 0)) 44))
  have hz := h.below.size
  have hbk : ∀ q, q ∈ bkBlocks w.heap.size (.slice none 0 0) (.slice none 0 0) [] → q = w.heap.size := fun q hq => by simpa [bkBlocks, rowBlocks, Value.ownBlock] using hq
  exact ⟨h1.good, h1.set, h1.own, h1.now, h1.len, bk_new w, by intro r hr; simp at hr, h1.below, h1.lowS, fun q hq => by rw [hbk q hq]; exact hz, fun q hq e => by have := (h.now.lt q hq).2; rw [hbk q e] at this; omega, h1.sz⟩
set_option maxHeartbeats 40000000 in
theorem nsets_walk (ss : List ByteArray) (ow : ByteArray) (owned zero : Bool) (l : List NOp) (A B : Option Addr) (c d : Nat) (w : World) (hr : Reads w w.heap.size 1 A ss.length (strs ss)) (hl : ss.length ≤ 9223372036854775807) (hs : ∀ s ∈ ss, s.size ≤ 9223372036854775807)
    (hops : NOpsAt w w.heap.size B l) (hm : l.length ≤ 9223372036854775807) (hf : ∀ x ∈ l, x.Fits) (how : ow.size ≤ 281474976710656) :
    Calls Tryz.prog 4 #[.slice A ss.length c, .string ow, .bool owned, .bool zero, .slice B l.length d] w fun e w' => e = .returned (.bool true) ∧ Below w.heap.size w w' := by
  by_cases hs6 : shortB 300 9000 ss = false ∨ 200 < l.length
  · exact nsets_early ss ow owned zero l A B c d w hr hl hs hm hs6
  have hsh : shortB 300 9000 ss = true := by
    cases h : shortB 300 9000 ss
    · exact absurd (.inl h) hs6
    · rfl
  have hm2 : l.length ≤ 200 := by
    rcases Nat.lt_or_ge 200 l.length with h | h
    · exact absurd (.inr h) hs6
    · exact h
  clear hs6 hm
  have hsh' := shortB_iff.1 hsh
  have htot := hsh'.2
  have hlen := hsh'.1
  have Hsh := Lib.hid hsh; have Hs := Lib.hid hs; have Hr := Lib.hid hr; have HOPS := Lib.hid hops; have HF := Lib.hid hf
  have HSZ : Hid (∀ s ∈ ss, s.size ≤ 9000) := fun s h => by have := size_le_total h; omega
  clear hsh hsh' hs hr hops hf
  obtain ⟨n, hn⟩ : ∃ n, ss.length = n := ⟨_, rfl⟩
  have HN := Lib.hid hn
  obtain ⟨N, hNN⟩ : ∃ N, l.length = N := ⟨_, rfl⟩
  have HNN := Lib.hid hNN
  rw [hNN] at hm2 ⊢
  rw [hn] at hl hlen ⊢
  have Hr' : Hid (Reads w w.heap.size 1 A n (strs ss)) := by show Reads _ _ _ _ _ _; rw [← hn]; exact Hr.out
  clear hn hNN
  obtain ⟨T, HT⟩ : ∃ T, Hid (T = srt ss) := ⟨_, rfl⟩
  obtain ⟨m, HM⟩ : ∃ m, Hid (T.length = m) := ⟨_, rfl⟩
  have hm6 : m ≤ 300 := by have := srt_len ss; rw [← HT.out, HM.out, HN.out] at this; omega
  have Hlen : Hid (ss.length ≤ 9223372036854775807) := by show _ ≤ _; rw [HN.out]; exact hl
  have CS : Hid (∀ W, Reads W W.heap.size 1 A n (strs ss) → Calls Tryz.prog 5 #[.slice A n c] W fun e w' => e = .returned (.bool true) ∧ Below W.heap.size W w') := fun W h => by
    have := short2_any ss A c W (by rw [HN.out]; exact h) Hlen.out Hs.out
    rw [HN.out, Hsh.out] at this
    exact this
  have CL : Hid (∀ W, Reads W W.heap.size 1 A n (strs ss) → Calls Tryz.prog 7 #[.slice A n c] W fun e w' => ∃ g cap, e = .returned (.slice (some ⟨g, 0, none⟩) n cap) ∧ n + 1 ≤ cap ∧ cap ≤ 9223372036854775807 ∧ W.heap.size ≤ g ∧ g < w'.heap.size ∧ w'.ownsRow W.heap.size 9 1 (.slice (some ⟨g, 0, none⟩) (n + 1) cap) (n + 1) (strs (ss ++ [markS])) ∧ Below W.heap.size W w') := fun W h => by
    have := lentT_own ss A c W (by rw [HN.out]; exact h) (by rw [HN.out]; omega)
    rw [HN.out] at this
    exact this
  have CN : Hid (∀ W g c', g < W.heap.size → Reads W W.heap.size 1 (some ⟨g, 0, none⟩) n (strs ss) → Calls Tryz.prog 18 #[.slice (some ⟨g, 0, none⟩) n c'] W fun e w' => e = .returned (.pointer (some ⟨W.heap.size, 0, none⟩)) ∧ SetAt W.heap.size (W.heap.size + 1) (setS ss) w' ∧ Below W.heap.size W w') := fun W g c' hg h => by
    have := newset_any ss (some ⟨g, 0, none⟩) c' W (by rw [HN.out]; omega) (by rw [HN.out]; exact h) (fun _ ad e => by injection e with e; subst e; exact hg) (fun s h => by have := HSZ.out s h; omega)
    rw [HN.out] at this
    exact this
  have CO : Hid (∀ W, Reads W W.heap.size 1 A n (strs ss) → Calls Tryz.prog 19 #[.string ow, .slice A n c] W fun e w' => e = .returned (.agg #[.pointer (some ⟨W.heap.size + 1, 0, none⟩), .string ow]) ∧ SetAt (W.heap.size + 1) (W.heap.size + 2) (setS ss) w' ∧ Below W.heap.size W w') := fun W h => by
    have := own_any ow how ss A c W (by rw [HN.out]; omega) (by rw [HN.out]; exact h) (by rw [HN.out]; exact reads_in h) (fun s h => by have := HSZ.out s h; omega)
    rw [HN.out] at this
    exact this
  have CR : Hid (∀ W, Reads W W.heap.size 1 A n (strs ss) → Calls Tryz.prog 10 #[.slice A n c] W fun e w' => ∃ A' cap, e = .returned (.slice A' m cap) ∧ w'.ownsRow W.heap.size 9 1 (.slice A' m cap) m (strs T) ∧ Below W.heap.size W w') := fun W h => by
    have := rsort_any ss A c W (by rw [HN.out]; exact h) (by rw [HN.out]; omega) (fun s hs => by have := HSZ.out s hs; omega)
    rw [HN.out, ← HT.out, HM.out] at this
    exact this
  have CT : Hid (∀ W g cap, n + 1 ≤ cap → Reads W W.heap.size 1 (some ⟨g, 0, none⟩) (n + 1) (strs (ss ++ [markS])) → Reads W W.heap.size 1 A n (strs ss) → cap ≤ 9223372036854775807 → Calls Tryz.prog 11 #[.slice (some ⟨g, 0, none⟩) n cap, .slice A n c] W fun e w' => e = .returned (.bool true) ∧ Below W.heap.size W w') := fun W g cap h1 h2 h3 h4 => by
    have := staysT_any ss g cap A c W (by rw [HN.out]; exact h1) (by rw [HN.out]; exact h2) (by rw [HN.out]; exact h3) (by rw [HN.out]; omega) h4
    rw [HN.out] at this
    exact this.mono fun e w' ⟨he, q, hq⟩ => ⟨he, by rw [hq]; exact drewN_below (Below.refl _ _) q⟩
  clear htot
  go_enter Tryz.func4, Tryz.ntmps4
  go_wp2_with fail
  refine (CS.out w Hr'.out).mono ?_
  rintro e w1 ⟨rfl, hb1⟩
  have hz1 := hb1.size
  go_wp2_with fail
  refine (CL.out w1 ((Hr'.out.below hb1).more hz1)).mono ?_
  rintro e w2 ⟨gm, cm, rfl, hcm, hcm2, hgm, hgm2, hom, hb2⟩
  have hz2 := hb2.size
  have HB2 : Hid (Below w.heap.size w w2) := hb1.trans (hb2.mono hz1)
  have HOM := Lib.hid hom
  clear hb1 hb2 hom
  go_wp2_with fail
  refine (CN.out w2 gm cm hgm2 (lent_first HN.out (Reads.of_own HOM.out))).mono ?_
  rintro e w3 ⟨rfl, hs3, hb3⟩
  have hz3 := hb3.size
  have hlt3 := hs3.ltb
  have HS3 := Lib.hid hs3
  have HB23 := Lib.hid hb3
  have HB3 : Hid (Below w.heap.size w w3) := HB2.out.trans (hb3.mono (by omega))
  clear hs3 hb3
  go_wp2_with fail
  refine (CO.out w3 ((Hr'.out.below HB3.out).more (by omega))).mono ?_
  rintro e w4 ⟨rfl, hs4, hb4⟩
  have hz4 := hb4.size
  have HS4 := Lib.hid hs4
  have HB34 := Lib.hid hb4
  clear hs4 hb4
  go_upto_if 41 with (fail)
  obtain ⟨W5, HW5⟩ : ∃ W5, Hid (w4.alloc (.cells #[.pointer (some ⟨w3.heap.size + 1, 0, none⟩), .string ow] 56) = W5) := ⟨_, rfl⟩
  rw [HW5.out]
  have hz5 : W5.heap.size = w4.heap.size + 1 := by rw [← HW5.out]; simp
  have hb45 : Below w4.heap.size w4 W5 := by rw [← HW5.out]; exact (Below.refl _ _).alloc (Nat.le_refl _) _
  have HBO : Hid (W5.heap[w4.heap.size]? = some (.cells #[.pointer (some ⟨w3.heap.size + 1, 0, none⟩), .string ow] 56 (0, 0))) := by show _ = _; rw [← HW5.out]; exact heap_alloc_new _ _
  have HB35 : Hid (Below w3.heap.size w3 W5) := HB34.out.trans (hb45.mono hz4)
  have HB25 : Hid (Below w2.heap.size w2 W5) := HB23.out.trans (HB35.out.mono (by omega))
  have HB5 : Hid (Below w.heap.size w W5) := HB3.out.trans (HB35.out.mono (by omega))
  have hlt4 := HS4.out.ltb
  have HF3 : Hid (SetF w2.heap.size [w2.heap.size, w2.heap.size + 1] (setS ss) W5) := .inl ⟨_, rfl, HS3.out.below HB35.out HS3.out.lt HS3.out.ltb⟩
  have HF4 : Hid (SetF (w3.heap.size + 1) [w3.heap.size + 1, w3.heap.size + 2] (setS ss) W5) := .inl ⟨_, rfl, HS4.out.below hb45 HS4.out.lt HS4.out.ltb⟩
  clear hb45 HW5 HS3 HS4 HB34 HB23 HB35 HB3
  go_cut [12] (fun s wx => ∃ (c0 : Nat) (S : List Nat), s = .pointer (some ⟨c0, 0, none⟩) ∧ Hid (SetF c0 S (setS ss) W5) ∧ Hid (∀ q ∈ S, w.heap.size ≤ q) ∧ Hid (owned = true → c0 = w3.heap.size + 1) ∧ W5 = wx)
  case first =>
    have e0 : W5.cell? ⟨w4.heap.size, 0, none⟩ = some (.pointer (some ⟨w3.heap.size + 1, 0, none⟩)) := by rw [Lib.cell_of_heap HBO.out]; rfl
    cases owned
    · go_wp2_with fail
      go_meet
      exact ⟨_, _, rfl, HF3.out, fun q hq => (by simp at hq; omega), fun h => (by cases h), rfl⟩
    · go_wp2_with fail
      go_meet
      exact ⟨_, _, rfl, HF4.out, fun q hq => (by simp at hq; omega), fun _ => rfl, rfl⟩
  case rest =>
  obtain ⟨c0, S0, rfl, HSF, HSL, HOC, rfl⟩ := hcut
  clear HF3 HF4
  go_wp2_with fail
  refine (CR.out W5 ((Hr'.out.below HB5.out).more (by omega))).mono ?_
  rintro e w6 ⟨Ar, cr, rfl, hor, hb6⟩
  have hz6 := hb6.size
  obtain ⟨Ar', cr', e9, hcr⟩ := own_form hor
  injection e9 with e1 _ e2
  subst e1 e2
  have HB26 : Hid (Below w2.heap.size w2 w6) := HB25.out.trans (hb6.mono (by omega))
  have HBO6 : Hid (w6.heap[w4.heap.size]? = some (.cells #[.pointer (some ⟨w3.heap.size + 1, 0, none⟩), .string ow] 56 (0, 0))) := (hb6.block _ (by omega)).trans HBO.out
  have HP6 : Hid (NsPre w (w3.heap.size + 1) w4.heap.size ow c0 S0 (setS ss) (.slice Ar m cr) m w6) := by
    have e : lstS (setS ss) = T := HT.out.symm
    refine ⟨goodS_set ss, HSF.out.below hb6, HBO6.out, ?_, by rw [e]; exact HM.out, HB5.out.trans (hb6.mono HB5.out.size), HSL.out, fun s hs => ?_⟩
    · rw [e]
      have h0 := HB5.out.size
      exact ownsRow_base hor h0
    · rw [e, HT.out] at hs
      exact HSZ.out s ((mem_srt ss s).1 hs)
  have HNW : Hid (∀ q, (Value.slice Ar m cr).ownBlock = some q → w2.heap.size ≤ q) := fun q hq => by have := (hor.lt q hq).1; omega
  clear hor hb6 HSF HB25 HBO
  go_upto_if 46 with (fail)
  go_cut [12, 14] (fun s nw wx => ∃ (c1 : Nat) (S : List Nat) (D : DataW Unit) (p : Nat) (A1 : Option Addr) (cn : Nat), s = .pointer (some ⟨c1, 0, none⟩) ∧ nw = .slice A1 p cn ∧ p ≤ cn ∧ p ≤ 300 ∧ Hid (NsPre w (w3.heap.size + 1) w4.heap.size ow c1 S D (.slice A1 p cn) p wx) ∧ Hid (Below w6.heap.size w6 wx) ∧ Hid (owned = true → zero = false → c1 = w3.heap.size + 1) ∧ Hid (∀ q, (Value.slice A1 p cn).ownBlock = some q → w2.heap.size ≤ q))
  case first =>
    cases zero
    · go_wp2_with fail
      go_meet
      exact ⟨c0, S0, _, m, Ar, cr, rfl, rfl, hcr, hm6, HP6.out, Below.refl _ _, fun h _ => HOC.out h, HNW.out⟩
    · go_wp2_with fail
      go_meet
      refine ⟨w6.heap.size, [w6.heap.size], .map [], 0, none, 0, rfl, rfl, Nat.le_refl _, by omega, ?_, (Below.refl _ _).alloc (Nat.le_refl _) _, fun _ h => (by cases h), fun q hq => (by simp [Value.ownBlock] at hq)⟩
      have h0 := HP6.out.below.size
      refine ⟨goodS_none, .inr ⟨rfl, rfl, heap_alloc_new _ _⟩, (Below.heap_alloc _ _ _ HP6.out.bolt).trans HP6.out.own, ?_, by rw [lstS_none]; rfl, HP6.out.below.alloc h0 _, fun q hq => by simp at hq; omega, fun s hs => by rw [lstS_none] at hs; cases hs⟩
      rw [lstS_none]
      exact World.ownsRow_nil _ _ _ _
  case rest =>
  obtain ⟨c1, S1, D1, p1, A1, cn1, rfl, rfl, hpc, hp3, HP, HB6, HCO, HNB⟩ := hcut
  clear HP6 HNW HOC HSL
  have hzc := HB6.out.size
  have HBW : Hid (Below w.heap.size w wc) := HP.out.below
  have hzw : w.heap.size ≤ wc.heap.size := HBW.out.size
  have HB2c : Hid (Below w2.heap.size w2 wc) := HB26.out.trans (HB6.out.mono (by omega))
  have HOMc : Hid (wc.ownsRow w1.heap.size 9 1 (.slice (some ⟨gm, 0, none⟩) (n + 1) cm) (n + 1) (strs (ss ++ [markS]))) := own_below HOM.out HB2c.out (fun q hq => (HOM.out.lt q hq).2)
  have e1 : wc.cell? ⟨w4.heap.size, 1, none⟩ = some (.string ow) := by rw [Lib.cell_of_heap HP.out.own]; rfl
  have hq1 : (ow.toList == ow.toList) = true := by simp
  clear HB26 HBO6 HOM HB6
  go_wp2_with fail
  refine (CT.out wc gm cm hcm (Reads.of_own HOMc.out) ((Hr'.out.below HBW.out).more hzw) hcm2).mono ?_
  rintro e w7 ⟨rfl, hb7⟩
  have hz7 := hb7.size
  have HP7 := Lib.hid (HP.out.bnew hb7)
  have HOM7 := Lib.hid (own_below HOMc.out hb7 (fun q hq => (HOMc.out.lt q hq).2))
  clear hb7 HOMc HP HBW HB2c e1 hq1 HB5
  have hgn : (Value.slice A1 p1 cn1).ownBlock ≠ some gm := fun e => by have := HNB.out gm e; omega
  have HGN := Lib.hid hgn
  clear hgn
  go_wp2
  go_loopw [15] (fun i wr => ∃ (k : Nat) (T' : List Value), k ≤ n ∧ i = .int .i64 k ∧ Hid (wr.ownsRow w1.heap.size 9 1 (.slice (some ⟨gm, 0, none⟩) (n + 1) cm) (n + 1) T') ∧ Hid (NsPre w (w3.heap.size + 1) w4.heap.size ow c1 S1 D1 (.slice A1 p1 cn1) p1 wr)) (fun i _ => n - (intOf i).toNat)
  case atStart => exact ⟨0, _, Nat.zero_le _, rfl, HOM7.out, HP7.out⟩
  case round =>
    clear HOM7 HP7
    obtain ⟨k, T', hk, rfl, HO, HP⟩ := hrel
    by_cases hlt : k < n
    · have hd := HO.out.cellAt k (by omega)
      obtain ⟨u, hu⟩ : ∃ u, T'[k]? = some u := ⟨T'[k]'(by have := HO.out.1; omega), List.getElem?_eq_getElem _⟩
      rw [hu] at hd
      have hfz := HO.out.frozenAt k
      have HP9 := Lib.hid (HP.out.store (own_kind HO.out rfl) (show w.heap.size ≤ gm by omega) HGN.out k (.string ⟨#[79, 84, 72, 69, 82]⟩))
      have HO9 := Lib.hid (HO.out.stored k (.string ⟨#[79, 84, 72, 69, 82]⟩)).1
      clear hu
      go_wp2
      go_roundw
      case rel => exact ⟨k + 1, _, hlt, by go_num, HO9.out, HP9.out⟩
      case measure => simp [intOf]; omega
    · have HK0 := Lib.hid HP.out.book
      obtain ⟨g, hg⟩ : ∃ g, wr.heap.size = g := ⟨_, rfl⟩
      obtain ⟨W8, hW8⟩ : ∃ W8, wr.alloc (.cells (bkCells (.slice none 0 0) (.slice none 0 0)) 44) = W8 := ⟨_, rfl⟩
      rw [hg, hW8] at HK0
      have HG8 := Lib.hid hg; have HW8 := Lib.hid hW8
      clear HO HP hg hW8
      obtain ⟨co, hco⟩ : ∃ co, w3.heap.size + 1 = co := ⟨_, rfl⟩
      obtain ⟨bo, hbo⟩ : ∃ bo, w4.heap.size = bo := ⟨_, rfl⟩
      rw [hco, hbo] at HK0
      rw [hco] at HCO
      have HBO9 := Lib.hid hbo
      clear hco hbo
      go_upto_region 18 with (fail)
      have hW8' := HW8.out
      unfold bkCells at hW8'
      rw [hW8', HG8.out, HBO9.out]
      clear hW8'
      go_wp2
      go_loopw [14, 17] (fun nw i wr => ∃ (k : Nat) (S : List Nat) (D : DataW Unit) (p : Nat) (A2 : Option Addr) (cn : Nat) (tv wv : Value) (L : List TRow), k ≤ N ∧ i = .int .i64 k ∧ nw = .slice A2 p cn ∧ p ≤ cn ∧ p ≤ 300 + 300 * k ∧ L.length = k ∧ Hid (NsAt w co bo ow g c1 S D (.slice A2 p cn) p tv wv L wr)) (fun _ i _ => N - (intOf i).toNat)
      case atStart => exact ⟨0, S1, D1, p1, A1, cn1, _, _, [], Nat.zero_le _, rfl, rfl, hpc, by omega, rfl, HK0.out⟩
      case round =>
        clear HK0 HG8 HW8
        obtain ⟨k2, S, D, p, A2, cn, tv, wv, L, hk2, rfl, rfl, hpn, hpk, hLk, HNS⟩ := hrel
        have HBr : Hid (Below w.heap.size w wr) := HNS.out.below
        have hzr : w.heap.size ≤ wr.heap.size := HBr.out.size
        have hlg : g < wr.heap.size := HNS.out.book.there g (mem_bk.2 (.inl rfl))
        have hgw : w.heap.size ≤ g := HNS.out.lowB g (mem_bk.2 (.inl rfl))
        have hlbo : bo < wr.heap.size := HNS.out.bolt
        by_cases hlt2 : k2 < N
        · obtain ⟨ads, x, rfl, hab, hxk, hcx, hin⟩ := HOPS.out.at_ (show k2 < l.length by rw [HNN.out]; exact hlt2)
          have HFX := Lib.hid (HF.out x (List.mem_of_getElem? hxk))
          have HIN := Lib.hid hin
          have hC : ∀ j v, x.cells[j]? = some v → wr.cell? ((ads.add (k2 * 2)).add j) = some v := fun j v hj => (HBr.out.cell (by rw [block_of_add, block_of_add]; exact hab)).trans (hcx j v hj)
          have e0 : wr.cell? (ads.add (k2 * 2)) = some (.int .i64 x.kind) := by have h := hC 0 _ rfl; rw [show (ads.add (k2 * 2)).add 0 = ads.add (k2 * 2) from by rw [add_of_add]; rfl] at h; exact h
          have e1 : wr.cell? ⟨(ads.add (k2 * 2)).block, (ads.add (k2 * 2)).off + 1, none⟩ = some (.slice x.ta x.tt.length x.tc) := hC 1 _ rfl
          clear hxk hcx hin hC
          obtain ⟨tt, htt⟩ : ∃ tt, x.tt = tt := ⟨_, rfl⟩
          obtain ⟨q, hq⟩ : ∃ q, tt.length = q := ⟨_, rfl⟩
          obtain ⟨kd, hkd⟩ : ∃ kd, x.kind = kd := ⟨_, rfl⟩
          obtain ⟨ta, hta⟩ : ∃ ta, x.ta = ta := ⟨_, rfl⟩
          obtain ⟨tc, htc⟩ : ∃ tc, x.tc = tc := ⟨_, rfl⟩
          obtain ⟨hlt9, hvt9, hvk⟩ := HFX.out
          have hin := HIN.out
          rw [htt, hta, hq] at hin
          rw [htt, hq] at hlt9
          rw [htt] at hvt9
          rw [hkd] at e0 hvk
          rw [hta, htt, htc, hq] at e1
          have HQ := Lib.hid hq
          have HIN2 := Lib.hid hin; have HVT := Lib.hid hvt9
          clear htt hq hkd hta htc hin hvt9 HIN HFX
          have hnk1 : (0 : Int) ≤ (k2 : Int) := by omega
          have hnk2 : (k2 : Int) < (N : Int) := by omega
          obtain ⟨b0, HB0⟩ : ∃ b0, Hid (wr.heap.size = b0) := ⟨_, rfl⟩
          obtain ⟨W1, HW1⟩ : ∃ W1, Hid (wr.alloc (.cells #[.int .i64 kd, .slice ta q tc] 62) = W1) := ⟨_, rfl⟩
          have HX1 : Hid (W1.heap[b0]? = some (.cells #[.int .i64 kd, .slice ta q tc] 62 (0, 0))) := by show _ = _; rw [← HW1.out, ← HB0.out]; exact heap_alloc_new _ _
          have HN1 : Hid (NsAt w co bo ow g c1 S D (.slice A2 p cn) p tv wv L W1) := by show NsAt _ _ _ _ _ _ _ _ _ _ _ _ _ _; rw [← HW1.out]; exact HNS.out.bnew ((Below.refl _ _).alloc (Nat.le_refl _) _)
          have hzW : W1.heap.size = wr.heap.size + 1 := by rw [← HW1.out]; simp
          have hb0W : b0 < W1.heap.size := by rw [hzW, HB0.out]; omega
          have HBW1 : Hid (Below w.heap.size w W1) := HN1.out.below
          have hRt : Reads W1 W1.heap.size 1 ta tt.length (strs tt) := by rw [HQ.out]; exact (HIN2.out.below HBW1.out).more HBW1.out.size
          have qs := short2_any tt ta tc W1 hRt (by rw [HQ.out]; exact hlt9) HVT.out
          rw [HQ.out] at qs
          clear hRt
          obtain ⟨sb, hsb⟩ : ∃ sb, shortB 300 9000 tt = sb := ⟨_, rfl⟩
          rw [hsb] at qs
          have HSB := Lib.hid hsb
          clear hsb
          go_upto_region 22 with (fail)
          rw [HB0.out, HW1.out]
          clear e0 e1
          have x1 : W1.cell? ⟨b0, 1, none⟩ = some (.slice ta q tc) := by rw [Lib.cell_of_heap HX1.out]; rfl
          go_wp2_with fail
          refine qs.mono ?_
          rintro e W2 ⟨rfl, hb12⟩
          have HN2 := Lib.hid (HN1.out.bnew hb12)
          have HX2 : Hid (W2.heap[b0]? = some (.cells #[.int .i64 kd, .slice ta q tc] 62 (0, 0))) := (hb12.block b0 hb0W).trans HX1.out
          have hz12 := hb12.size
          clear x1 qs hb12
          cases sb
          · have HBF : Hid (Below w.heap.size w W2) := HN2.out.below
            clear HN1 HN2 HX1 HX2 HNS
            go_wp2
            go_ret
            exact ⟨rfl, HBF.out⟩
          · have hsh9 := shortB_iff.1 HSB.out
            have hq3 : q ≤ 300 := by rw [← HQ.out]; exact hsh9.1
            have HSZT : Hid (∀ s ∈ tt, s.size ≤ 9000) := fun s h => by have := size_le_total h; have := hsh9.2; omega
            clear hsh9 HSB HN1 HX1 HNS HBW1
            have HBW2 : Hid (Below w.heap.size w W2) := HN2.out.below
            have hb02 : b0 < W2.heap.size := by omega
            have x0 : W2.cell? ⟨b0, 0, none⟩ = some (.int .i64 kd) := by rw [Lib.cell_of_heap HX2.out]; rfl
            go_upto_block 4 with (fail)
            go_cut [14] (fun nw wx => ∃ (S' : List Nat) (D' : DataW Unit) (p' : Nat) (A' : Option Addr) (cn' : Nat), nw = .slice A' p' cn' ∧ p' ≤ cn' ∧ p' ≤ 300 + 300 * (k2 + 1) ∧ Hid (NsAt w co bo ow g c1 S' D' (.slice A' p' cn') p' tv wv L wx) ∧ Hid (wx.heap[b0]? = some (.cells #[.int .i64 kd, .slice ta q tc] 62 (0, 0))))
            case first =>
              obtain ⟨wo, hwo⟩ : ∃ wo : World, wo = wr := ⟨_, rfl⟩
              subst hwo
              obtain ⟨i0, hinf, hz0, hz1', hz2'⟩ := info_parts rs_info_str
              have hsD : Maps.size D = p := by rw [← lstS_len HN2.out.good]; exact HN2.out.len
              have HSD := Lib.hid hsD
              clear hsD
              have hz2w : w.heap.size ≤ W2.heap.size := HBW2.out.size
              have hTA : Hid (0 < q → ∀ ad, ta = some ad → ad.block ∉ S ∧ ad.block < w.heap.size) := fun h ad e => by
                have h1 := reads_in HIN2.out h ad e
                exact ⟨fun h2 => by have := HN2.out.lowS _ h2; omega, h1⟩
              by_cases hk1 : kd = 1
              · have hkb : (kd == 1) = true := by simp [hk1]
                clear hk1
                go_wp2
                go_loopw [14, 19, 20] (fun nw nn i w6 => ∃ (j ec p' cn' : Nat) (A' : Option Addr) (D' : DataW Unit), j ≤ q ∧ i = .int .i64 j ∧ nn = .int .i64 ec ∧ nw = .slice A' p' cn' ∧ p' ≤ cn' ∧ Hid (p' = p + ec) ∧ ec ≤ j ∧ Hid (addS D (tt.take j) = D') ∧ Hid (GoodS D') ∧ Hid (w6.ownsRow w.heap.size 9 1 (.slice A' p' cn') p' (strs (lstS D'))) ∧ Hid ((lstS D').length = p') ∧ Hid (Below W2.heap.size W2 w6) ∧ Hid (∀ b, (Value.slice A' p' cn').ownBlock = some b → W2.heap.size ≤ b ∨ (Value.slice A2 p cn).ownBlock = some b) ∧ Hid (∀ s ∈ lstS D', s.size ≤ 9000)) (fun _ _ i _ => q - (intOf i).toNat)
                case atStart => exact ⟨0, 0, p, cn, A2, D, Nat.zero_le _, rfl, rfl, rfl, hpn, rfl, Nat.le_refl _, rfl, HN2.out.good, HN2.out.now, HN2.out.len, Below.refl _ _, fun b hb => .inr hb, HN2.out.sz⟩
                case round =>
                  obtain ⟨j, ec, p', cn', A', D', hj, rfl, rfl, rfl, hpc', HPE, hej, HD', HGD, HO, HLN, HBL, HNB', HSZ'⟩ := hrel
                  have hzl : W2.heap.size ≤ wr.heap.size := HBL.out.size
                  have HX : Hid (wr.heap[b0]? = some (.cells #[.int .i64 kd, .slice ta q tc] 62 (0, 0))) := (HBL.out.block b0 hb02).trans HX2.out
                  have x1 : wr.cell? ⟨b0, 1, none⟩ = some (.slice ta q tc) := by rw [Lib.cell_of_heap HX.out]; rfl
                  have HBWr : Hid (Below w.heap.size w wr) := HBW2.out.trans (HBL.out.mono hz2w)
                  by_cases hjq : j < q
                  · as_aux_lemma =>
                      obtain ⟨ad, s, rfl, hadb, hsk, hcs0⟩ := str_at HIN2.out hjq
                      have hcs : wr.cell? (ad.add j) = some (.string s) := (HBWr.out.cell (by rw [block_of_add]; exact hadb)).trans hcs0
                      have hsk9 := Lib.hid hsk
                      have hss9 := HSZT.out s (List.mem_of_getElem? hsk)
                      have qh := lhas_any (lstS D') s A' cn' p' wr.heap.size HLN.out wr (Reads.of_own HO.out) (by have := HPE.out; omega)
                      obtain ⟨hb, hbe⟩ : ∃ hb, inL (lstS D') s = hb := ⟨_, rfl⟩
                      rw [hbe] at qh
                      have HBE := Lib.hid hbe
                      have hadr : ad.block < wr.heap.size := by omega
                      have hb0r : b0 < wr.heap.size := by omega
                      have hzr2 : w.heap.size ≤ wr.heap.size := by omega
                      clear hcs0 hsk hbe
                      go_wp2_with fail
                      refine qh.mono ?_
                      rintro e w' ⟨rfl, rfl⟩
                      cases hb
                      · have hnin : s ∉ lstS D' := fun h => by
                          have := inL_iff.2 h
                          rw [HBE.out] at this
                          cases this
                        have hnew := add_new HGD.out hnin
                        have HGD9 := Lib.hid (HGD.out.one s)
                        have HLN9 : Hid ((lstS (addOne D' s)).length = p' + 1) := by
                          show _ = _
                          rw [lstS_len (HGD.out.one s), hnew.2, ← lstS_len HGD.out, HLN.out]
                        have HSZ9 : Hid (∀ x ∈ lstS (addOne D' s), x.size ≤ 9000) := fun x hx => by
                          rw [← hnew.1, mem_srt, List.mem_append, List.mem_singleton] at hx
                          rcases hx with hx | rfl
                          · exact HSZ'.out x hx
                          · exact hss9
                        have HQS : Hid (∀ (W : World) (A : Option Addr) (c : Nat), Reads W W.heap.size 1 A (p' + 1) (strs (lstS D' ++ [s])) → Calls Tryz.prog 10 #[.slice A (p' + 1) c] W fun e w' => ∃ A9 c9, e = .returned (.slice A9 (p' + 1) c9) ∧ w'.ownsRow W.heap.size 9 1 (.slice A9 (p' + 1) c9) (p' + 1) (strs (lstS (addOne D' s))) ∧ Below W.heap.size W w') := fun W A c h => by
                          have hl9 : (lstS D' ++ [s]).length = p' + 1 := by rw [List.length_append, HLN.out]; rfl
                          have := rsort_any (lstS D' ++ [s]) A c W (by rw [hl9]; exact h) (by rw [hl9]; have := HPE.out; omega) (fun x hx => by
                            rcases List.mem_append.1 hx with hx | hx
                            · have := HSZ'.out x hx; omega
                            · obtain rfl := List.mem_singleton.1 hx; omega)
                          rw [hl9, hnew.1, HLN9.out] at this
                          exact this
                        have HRN := Lib.hid (Reads.of_own HO.out)
                        have hp9 : p' ≤ 100000 := by have := HPE.out; omega
                        have hXd : wr.drew.heap.size = wr.heap.size := rfl
                        clear hnin hnew qh
                        go_wp2
                        refine wp_region_held_drew (S := fun X9 => X9.cell? ⟨b0, 1, none⟩ = some (.slice (some ad) q tc) ∧ X9.cell? (ad.add j) = some (.string s)) (by kernel_rfl) (show (wr.drew).cell? _ = _ ∧ (wr.drew).cell? _ = _ from ⟨x1, hcs⟩) (fun hHeld => ?_)
                        refine wpAnyH_take (i := 0) (v := ?_) rfl (by kernel_rfl) (by kernel_rfl) (by kernel_rfl) (fun _ _ _ h => h) (Or.inl ⟨by rfl, ?_⟩) (by assumption) ?_
                        rotate_left
                        · intro X9 hSw; (try dsimp only at hSw); obtain ⟨hs1, hs2⟩ := hSw; (try simp only [List.getElem_toArray, List.getElem_cons_zero]); first | (go_simp; done) | (go_simp; with_reducible rfl)
                        try simp only [Act.put, List.setIfInBounds_toArray, List.set_cons_zero, List.set_cons_succ, List.getElem_toArray, List.getElem_cons_zero]
                        refine wpAnyH_take (i := 2) (v := ?_) rfl (by kernel_rfl) (by kernel_rfl) (by kernel_rfl) (fun _ _ _ h => h) (Or.inl ⟨by rfl, ?_⟩) (by assumption) ?_
                        rotate_left
                        · intro X9 hSw; (try dsimp only at hSw); obtain ⟨hs1, hs2⟩ := hSw; (try simp only [List.getElem_toArray, List.getElem_cons_succ, List.getElem_cons_zero]); first | (go_simp; done) | (go_simp; with_reducible rfl)
                        try simp only [Act.put, List.setIfInBounds_toArray, List.set_cons_zero, List.set_cons_succ, List.getElem_toArray, List.getElem_cons_succ, List.getElem_cons_zero]
                        refine wpAnyH_take (i := 3) (v := ?_) rfl (by kernel_rfl) (by kernel_rfl) (by kernel_rfl) (fun _ _ _ h => h) (Or.inl ⟨by rfl, ?_⟩) (by assumption) ?_
                        rotate_left
                        · intro X9 hSw; (try dsimp only at hSw); obtain ⟨hs1, hs2⟩ := hSw; (try simp only [List.getElem_toArray, List.getElem_cons_succ, List.getElem_cons_zero]); first | (go_simp; done) | (go_simp; with_reducible rfl)
                        try simp only [Act.put, List.setIfInBounds_toArray, List.set_cons_zero, List.set_cons_succ, List.getElem_toArray, List.getElem_cons_succ, List.getElem_cons_zero]
                        refine wpAnyH_take (i := 4) (v := ?_) rfl (by kernel_rfl) (by kernel_rfl) (by kernel_rfl) (fun _ _ _ h => h) (Or.inl ⟨by rfl, ?_⟩) (by assumption) ?_
                        rotate_left
                        · intro X9 hSw; (try dsimp only at hSw); obtain ⟨hs1, hs2⟩ := hSw; (try simp only [List.getElem_toArray, List.getElem_cons_succ, List.getElem_cons_zero]); first | (go_simp; done) | (go_simp; with_reducible rfl)
                        try simp only [Act.put, List.setIfInBounds_toArray, List.set_cons_zero, List.set_cons_succ, List.getElem_toArray, List.getElem_cons_succ, List.getElem_cons_zero]
                        refine wpAnyH_take (i := 5) (v := ?_) rfl (by kernel_rfl) (by kernel_rfl) (by kernel_rfl) (fun _ _ _ h => h) (Or.inl ⟨by rfl, ?_⟩) (by assumption) ?_
                        rotate_left
                        · intro X9 hSw; (try dsimp only at hSw); obtain ⟨hs1, hs2⟩ := hSw; (try simp only [List.getElem_toArray, List.getElem_cons_succ, List.getElem_cons_zero]); first | (go_simp; done) | (go_simp; with_reducible rfl)
                        try simp only [Act.put, List.setIfInBounds_toArray, List.set_cons_zero, List.set_cons_succ, List.getElem_toArray, List.getElem_cons_succ, List.getElem_cons_zero]
                        refine wpAnyH_take (i := 6) (v := ?_) rfl (by kernel_rfl) (by kernel_rfl) (by kernel_rfl) (fun _ _ _ h => h) (Or.inl ⟨by rfl, ?_⟩) (by assumption) ?_
                        rotate_left
                        · intro X9 hSw; (try dsimp only at hSw); obtain ⟨hs1, hs2⟩ := hSw; (try simp only [List.getElem_toArray, List.getElem_cons_succ, List.getElem_cons_zero]); first | (go_simp; done) | (go_simp; with_reducible rfl)
                        try simp only [Act.put, List.setIfInBounds_toArray, List.set_cons_zero, List.set_cons_succ, List.getElem_toArray, List.getElem_cons_succ, List.getElem_cons_zero]
                        refine wpAnyH_ready (rs := [1, 7]) (by kernel_rfl) (by simp) (AllReadyH.cons rfl (fun K hK => ?_) (AllReadyH.cons rfl (fun K hK => ?_) (AllReadyH.nil)))
                        · refine step_append_any (wr.drew) rfl (.const (.slice none 0 0)) (.tmp 109) 22 rfl w.heap.size 9 i0 (.string ⟨#[]⟩) 1 16 Tryz.underlying22 hinf hz0 hz1' hz2' rfl (by decide) (.slice none 0 0) 0 [] (by rfl) (World.ownsRow_nil _ _ _ _) wr.heap.size A' p' cn' (strs (lstS D')) (by rfl) (HRN.out.drew) (strs_one' _) (by unfold maxLen; omega) (by omega) (hzr2) ?_
                          intro v7 w7 ho7 hg7 hl7
                          rw [Nat.zero_add, List.nil_append] at ho7
                          have hb7 : Below wr.heap.size wr w7 := ((Below.refl _ _).drew).trans ⟨hg7.os, hg7.tape, hg7.output, hg7.size, fun q hq => hg7.block q (by first | exact hq | (simp; omega)) (by simp [Value.ownBlock])⟩
                          have hz7 := hb7.size
                          refine hK.out _ _ (⟨(hb7.cell (p := ⟨b0, 1, none⟩) (show b0 < wr.heap.size from hb0r)).trans x1, (hb7.cell (by rw [block_of_add]; exact hadr)).trans hcs⟩) (fun hHeld => ?_)
                          clear hK K
                          try simp only [Act.put, List.setIfInBounds_toArray, List.set_cons_zero, List.set_cons_succ, List.getElem_toArray, List.getElem_cons_succ, List.getElem_cons_zero]
                          refine wpAnyH_ready (rs := [7]) (by kernel_rfl) (by simp) (AllReadyH.cons rfl (fun K hK => ?_) (AllReadyH.nil))
                          try simp only [List.getElem_toArray, List.getElem_cons_succ, List.getElem_cons_zero]
                          go_simp
                          refine hK.out _ _ (⟨(World.cell?_alloc_lt _ _ _ (show b0 < w7.heap.size by omega)).trans ((hb7.cell (p := ⟨b0, 1, none⟩) (show b0 < wr.heap.size from hb0r)).trans x1), (World.cell?_alloc_lt _ _ _ (by rw [block_of_add]; omega)).trans ((hb7.cell (by rw [block_of_add]; exact hadr)).trans hcs)⟩) (fun hHeld => ?_)
                          clear hK K
                          try simp only [Act.put, List.setIfInBounds_toArray, List.set_cons_zero, List.set_cons_succ, List.getElem_toArray, List.getElem_cons_succ, List.getElem_cons_zero]
                          refine wpAnyH_ready (rs := [8]) (by kernel_rfl) (by simp) (AllReadyH.cons rfl (fun K hK => ?_) (AllReadyH.nil))
                          refine step_append_any (w7.alloc _) rfl (.tmp 110) (.tmp 116) 22 rfl w.heap.size 9 i0 (.string ⟨#[]⟩) 1 16 Tryz.underlying22 hinf hz0 hz1' hz2' rfl (by decide) v7 p' (strs (lstS D')) (by rfl) (ho7.alloc _) (w7.heap.size + 1) (some ⟨w7.heap.size, 0, none⟩) 1 1 [.string s] (by rfl) (reads_newV w7 _ _ _ rfl rfl rfl (Nat.lt_succ_self _)) (by simp [Value.oneCell']) (by unfold maxLen; omega) (by omega) (by simp; omega) ?_
                          intro v8 w8 ho8 hg8 hl8
                          have hb8 : Below wr.heap.size wr w8 := (hb7.alloc hz7 _).grown hg8 (by simp; omega) (fun q hq => by
                            rcases hl7 with e | e
                            · rw [e] at hq; simp [Value.ownBlock] at hq
                            · rw [e] at hq; injection hq with hq; first | omega | (simp at hq; omega))
                          have hz8 := hb8.size
                          obtain ⟨A8, c8, rfl, hc88⟩ := own_form ho8
                          refine hK.out _ _ (⟨(hb8.cell (p := ⟨b0, 1, none⟩) (show b0 < wr.heap.size from hb0r)).trans x1, (hb8.cell (by rw [block_of_add]; exact hadr)).trans hcs⟩) (fun hHeld => ?_)
                          clear hK K
                          try simp only [Act.put, List.setIfInBounds_toArray, List.set_cons_zero, List.set_cons_succ, List.getElem_toArray, List.getElem_cons_succ, List.getElem_cons_zero]
                          refine wpAnyH_ready (rs := [9]) (by kernel_rfl) (by simp) (AllReadyH.cons rfl (fun K hK => ?_) (AllReadyH.nil))
                          try simp only [List.getElem_toArray, List.getElem_cons_succ, List.getElem_cons_zero]
                          go_simp
                          refine (HQS.out w8 A8 c8 (by have e : strs (lstS D' ++ [s]) = strs (lstS D') ++ [.string s] := by simp [strs]
                                                       rw [e]; exact Reads.of_own ho8)).mono ?_
                          rintro e w9 ⟨A9, c9, rfl, ho9, hb89⟩
                          have hb9 : Below wr.heap.size wr w9 := hb8.trans (hb89.mono hz8)
                          have hz9 := hb9.size
                          refine hK.out _ _ (⟨(hb9.cell (p := ⟨b0, 1, none⟩) (show b0 < wr.heap.size from hb0r)).trans x1, (hb9.cell (by rw [block_of_add]; exact hadr)).trans hcs⟩) (fun hHeld => ?_)
                          clear hK K
                          try simp only [Act.put, List.setIfInBounds_toArray, List.set_cons_zero, List.set_cons_succ, List.getElem_toArray, List.getElem_cons_succ, List.getElem_cons_zero]
                          refine wpAnyH_take (i := 10) (v := ?_) rfl (by kernel_rfl) (by kernel_rfl) (by kernel_rfl) (fun _ _ _ h => h) (Or.inl ⟨by rfl, ?_⟩) (by assumption) ?_
                          rotate_left
                          · intro X9 hSw; (try dsimp only at hSw); obtain ⟨hs1, hs2⟩ := hSw; (try simp only [List.getElem_toArray, List.getElem_cons_succ, List.getElem_cons_zero]); first | (go_simp; done) | (go_simp; with_reducible rfl)
                          try simp only [Act.put, List.setIfInBounds_toArray, List.set_cons_zero, List.set_cons_succ, List.getElem_toArray, List.getElem_cons_succ, List.getElem_cons_zero]
                          refine wpAnyH_done (by kernel_rfl) ?_ _
                          have HO9 : Hid (w9.ownsRow w.heap.size 9 1 (.slice A9 (p' + 1) c9) (p' + 1) (strs (lstS (addOne D' s)))) := ownsRow_base ho9 (by omega)
                          obtain ⟨A9', c9', e9, hc99⟩ := own_form ho9
                          injection e9 with e1 _ e2
                          subst e1 e2
                          have HNB9 : Hid (∀ b, (Value.slice A9 (p' + 1) c9).ownBlock = some b → W2.heap.size ≤ b ∨ (Value.slice A2 p cn).ownBlock = some b) := fun b hb => .inl (by have := (ho9.lt b hb).1; omega)
                          have HB9 : Hid (Below W2.heap.size W2 w9) := HBL.out.trans (hb9.mono hzl)
                          clear ho9 hb89 hb9 ho8 hg8 hl8 hb8 ho7 hg7 hl7 hb7
                          go_wp2
                          go_roundw
                          case rel => exact ⟨j + 1, ec + 1, p' + 1, c9, A9, addOne D' s, hjq, by go_num, by go_num, rfl, hc99, by show _ = _; rw [HPE.out]; omega, by omega, by show _ = _; rw [addS_step hsk9.out, HD'.out], HGD9.out, HO9.out, HLN9.out, HB9.out, HNB9.out, HSZ9.out⟩
                          case measure => simp [intOf]; omega
                        · try simp only [List.getElem_toArray, List.getElem_cons_succ, List.getElem_cons_zero]
                          go_simp
                          refine hK.out _ _ (⟨(World.cell?_alloc_lt _ _ _ (show b0 < wr.drew.heap.size from hb0r)).trans x1, (World.cell?_alloc_lt _ _ _ (by rw [block_of_add]; exact hadr)).trans hcs⟩) (fun hHeld => ?_)
                          clear hK K
                          try simp only [Act.put, List.setIfInBounds_toArray, List.set_cons_zero, List.set_cons_succ, List.getElem_toArray, List.getElem_cons_succ, List.getElem_cons_zero]
                          refine wpAnyH_ready (rs := [1]) (by kernel_rfl) (by simp) (AllReadyH.cons rfl (fun K hK => ?_) (AllReadyH.nil))
                          refine step_append_any (wr.drew.alloc _) rfl (.const (.slice none 0 0)) (.tmp 109) 22 rfl w.heap.size 9 i0 (.string ⟨#[]⟩) 1 16 Tryz.underlying22 hinf hz0 hz1' hz2' rfl (by decide) (.slice none 0 0) 0 [] (by rfl) (World.ownsRow_nil _ _ _ _) wr.heap.size A' p' cn' (strs (lstS D')) (by rfl) (HRN.out.drew.alloc (Nat.le_refl _) _) (strs_one' _) (by unfold maxLen; omega) (by omega) (by simp; omega) ?_
                          intro v7 w7 ho7 hg7 hl7
                          rw [Nat.zero_add, List.nil_append] at ho7
                          have hb7 : Below wr.heap.size wr w7 := (((Below.refl _ _).drew.alloc (Nat.le_refl _) _)).trans ⟨hg7.os, hg7.tape, hg7.output, hg7.size, fun q hq => hg7.block q (by first | exact hq | (simp; omega)) (by simp [Value.ownBlock])⟩
                          have hz7 := hb7.size
                          have hn7 : Reads w7 (wr.heap.size + 1) 1 (some ⟨wr.heap.size, 0, none⟩) 1 [.string s] := (reads_newV wr.drew [.string s] 9 #[.string s] rfl rfl rfl (Nat.lt_succ_self _)).grown hg7 (by simp) (by simp [Value.ownBlock])
                          refine hK.out _ _ (⟨(hb7.cell (p := ⟨b0, 1, none⟩) (show b0 < wr.heap.size from hb0r)).trans x1, (hb7.cell (by rw [block_of_add]; exact hadr)).trans hcs⟩) (fun hHeld => ?_)
                          clear hK K
                          try simp only [Act.put, List.setIfInBounds_toArray, List.set_cons_zero, List.set_cons_succ, List.getElem_toArray, List.getElem_cons_succ, List.getElem_cons_zero]
                          refine wpAnyH_ready (rs := [8]) (by kernel_rfl) (by simp) (AllReadyH.cons rfl (fun K hK => ?_) (AllReadyH.nil))
                          refine step_append_any (w7) rfl (.tmp 110) (.tmp 116) 22 rfl w.heap.size 9 i0 (.string ⟨#[]⟩) 1 16 Tryz.underlying22 hinf hz0 hz1' hz2' rfl (by decide) v7 p' (strs (lstS D')) (by rfl) (ho7) (wr.heap.size + 1) (some ⟨wr.heap.size, 0, none⟩) 1 1 [.string s] (by rfl) (hn7) (by simp [Value.oneCell']) (by unfold maxLen; omega) (by omega) (by omega) ?_
                          intro v8 w8 ho8 hg8 hl8
                          have hb8 : Below wr.heap.size wr w8 := (hb7).grown hg8 (hz7) (fun q hq => by
                            rcases hl7 with e | e
                            · rw [e] at hq; simp [Value.ownBlock] at hq
                            · rw [e] at hq; injection hq with hq; first | omega | (simp at hq; omega))
                          have hz8 := hb8.size
                          obtain ⟨A8, c8, rfl, hc88⟩ := own_form ho8
                          refine hK.out _ _ (⟨(hb8.cell (p := ⟨b0, 1, none⟩) (show b0 < wr.heap.size from hb0r)).trans x1, (hb8.cell (by rw [block_of_add]; exact hadr)).trans hcs⟩) (fun hHeld => ?_)
                          clear hK K
                          try simp only [Act.put, List.setIfInBounds_toArray, List.set_cons_zero, List.set_cons_succ, List.getElem_toArray, List.getElem_cons_succ, List.getElem_cons_zero]
                          refine wpAnyH_ready (rs := [9]) (by kernel_rfl) (by simp) (AllReadyH.cons rfl (fun K hK => ?_) (AllReadyH.nil))
                          try simp only [List.getElem_toArray, List.getElem_cons_succ, List.getElem_cons_zero]
                          go_simp
                          refine (HQS.out w8 A8 c8 (by have e : strs (lstS D' ++ [s]) = strs (lstS D') ++ [.string s] := by simp [strs]
                                                       rw [e]; exact Reads.of_own ho8)).mono ?_
                          rintro e w9 ⟨A9, c9, rfl, ho9, hb89⟩
                          have hb9 : Below wr.heap.size wr w9 := hb8.trans (hb89.mono hz8)
                          have hz9 := hb9.size
                          refine hK.out _ _ (⟨(hb9.cell (p := ⟨b0, 1, none⟩) (show b0 < wr.heap.size from hb0r)).trans x1, (hb9.cell (by rw [block_of_add]; exact hadr)).trans hcs⟩) (fun hHeld => ?_)
                          clear hK K
                          try simp only [Act.put, List.setIfInBounds_toArray, List.set_cons_zero, List.set_cons_succ, List.getElem_toArray, List.getElem_cons_succ, List.getElem_cons_zero]
                          refine wpAnyH_take (i := 10) (v := ?_) rfl (by kernel_rfl) (by kernel_rfl) (by kernel_rfl) (fun _ _ _ h => h) (Or.inl ⟨by rfl, ?_⟩) (by assumption) ?_
                          rotate_left
                          · intro X9 hSw; (try dsimp only at hSw); obtain ⟨hs1, hs2⟩ := hSw; (try simp only [List.getElem_toArray, List.getElem_cons_succ, List.getElem_cons_zero]); first | (go_simp; done) | (go_simp; with_reducible rfl)
                          try simp only [Act.put, List.setIfInBounds_toArray, List.set_cons_zero, List.set_cons_succ, List.getElem_toArray, List.getElem_cons_succ, List.getElem_cons_zero]
                          refine wpAnyH_done (by kernel_rfl) ?_ _
                          have HO9 : Hid (w9.ownsRow w.heap.size 9 1 (.slice A9 (p' + 1) c9) (p' + 1) (strs (lstS (addOne D' s)))) := ownsRow_base ho9 (by omega)
                          obtain ⟨A9', c9', e9, hc99⟩ := own_form ho9
                          injection e9 with e1 _ e2
                          subst e1 e2
                          have HNB9 : Hid (∀ b, (Value.slice A9 (p' + 1) c9).ownBlock = some b → W2.heap.size ≤ b ∨ (Value.slice A2 p cn).ownBlock = some b) := fun b hb => .inl (by have := (ho9.lt b hb).1; omega)
                          have HB9 : Hid (Below W2.heap.size W2 w9) := HBL.out.trans (hb9.mono hzl)
                          clear ho9 hb89 hb9 ho8 hg8 hl8 hb8 ho7 hg7 hl7 hb7
                          go_wp2
                          go_roundw
                          case rel => exact ⟨j + 1, ec + 1, p' + 1, c9, A9, addOne D' s, hjq, by go_num, by go_num, rfl, hc99, by show _ = _; rw [HPE.out]; omega, by omega, by show _ = _; rw [addS_step hsk9.out, HD'.out], HGD9.out, HO9.out, HLN9.out, HB9.out, HNB9.out, HSZ9.out⟩
                          case measure => simp [intOf]; omega
                      · have hin9 := inL_iff.1 HBE.out
                        have hadd := add_has HGD.out hin9
                        have HAD : Hid (addS D (tt.take (j + 1)) = D') := by show _ = _; rw [addS_step hsk9.out, HD'.out, hadd]
                        clear hin9 hadd qh
                        go_wp2
                        go_roundw
                        case rel => exact ⟨j + 1, ec, p', cn', A', D', hjq, by go_num, rfl, rfl, hpc', HPE.out, by omega, HAD.out, HGD.out, HO.out, HLN.out, HBL.out, HNB'.out, HSZ'.out⟩
                        case measure => simp [intOf]; omega
                  · as_aux_lemma =>
                      have hjq2 : j = q := by omega
                      have hall : addS D tt = D' := by
                        have h := HD'.out
                        rw [List.take_of_length_le (by rw [HQ.out]; omega)] at h
                        exact h
                      have hNl := HN2.out.bnew HBL.out
                      have hval : ((Maps.size (addS D tt) : Int) - (Maps.size D : Int)) = (ec : Int) := by
                        rw [hall, HSD.out, ← lstS_len HGD.out, HLN.out]
                        have := HPE.out
                        omega
                      have qa := addF c1 S D tt ta tc wr hNl.set hNl.good (by rw [HSD.out, HQ.out]; omega) (by rw [HQ.out]; exact (HIN2.out.below HBWr.out).more HBWr.out.size) (by rw [HQ.out]; exact fun h ad e => ⟨(hTA.out h ad e).1, by have := (hTA.out h ad e).2; have := HBWr.out.size; omega⟩) (fun s hs => by have := HSZT.out s hs; omega)
                      rw [HQ.out, hval] at qa
                      have hxS : b0 ∉ S := fun e => by
                        have := hNl.set.kind e ⟨_, _, HX.out⟩
                        revert this
                        decide
                      have HXS := Lib.hid hxS
                      have HALL := Lib.hid hall
                      have hq9 : ((ec : Int) != (ec : Int)) = false := by simp
                      have hp9 : p' ≤ 300 + 300 * (k2 + 1) := by have := HPE.out; omega
                      clear hall hNl hval hxS hjq2
                      go_wp2_with fail
                      refine qa.mono ?_
                      rintro e w9 ⟨rfl, S', hs', hm'⟩
                      have HNT : Hid (NsAt w co bo ow g c1 S' (addS D tt) (.slice A' p' cn') p' tv wv L w9) := HN2.out.turn HBL.out hm' hs' (HN2.out.good.add tt) (by rw [HALL.out]; exact HO.out) (by rw [HALL.out]; exact HLN.out) HNB'.out (by rw [HALL.out]; exact HSZ'.out)
                      have HX9 : Hid (w9.heap[b0]? = some (.cells #[.int .i64 kd, .slice ta q tc] 62 (0, 0))) := (hm'.block b0 (by omega) HXS.out).trans HX.out
                      clear hs' hm' qa x1
                      go_wp2
                      go_meet
                      exact ⟨S', _, p', A', cn', rfl, hpc', hp9, HNT.out, HX9.out⟩
              · have hkb : (kd == 1) = false := by simp [hk1]
                clear hk1
                by_cases hk2' : kd = 2
                · have hkb2 : (kd == 2) = true := by simp [hk2']
                  clear hk2'
                  go_wp2
                  go_loopw [19, 21, 22] (fun nn lf i w6 => ∃ (j ec pl cl : Nat) (Al : Option Addr), j ≤ p ∧ i = .int .i64 j ∧ nn = .int .i64 ec ∧ lf = .slice Al pl cl ∧ pl ≤ cl ∧ Hid (j = pl + ec) ∧ pl ≤ j ∧ ec ≤ j ∧ Hid ((((lstS D).take j).filter (fun s => !inL tt s)).length = pl) ∧ Hid (w6.ownsRow W2.heap.size 9 1 (.slice Al pl cl) pl (strs (((lstS D).take j).filter (fun s => !inL tt s)))) ∧ Hid (Below W2.heap.size W2 w6)) (fun _ _ i _ => p - (intOf i).toNat)
                  case atStart => exact ⟨0, 0, 0, 0, none, Nat.zero_le _, rfl, rfl, rfl, Nat.le_refl _, rfl, Nat.le_refl _, Nat.le_refl _, rfl, World.ownsRow_nil _ _ _ _, Below.refl _ _⟩
                  case round =>
                    obtain ⟨j, ec, pl, cl, Al, hj, rfl, rfl, rfl, hplc, HJE, hplj, hecj, HLL, HOL, HBL⟩ := hrel
                    have hzl : W2.heap.size ≤ wr.heap.size := HBL.out.size
                    have HX : Hid (wr.heap[b0]? = some (.cells #[.int .i64 kd, .slice ta q tc] 62 (0, 0))) := (HBL.out.block b0 hb02).trans HX2.out
                    have x1 : wr.cell? ⟨b0, 1, none⟩ = some (.slice ta q tc) := by rw [Lib.cell_of_heap HX.out]; rfl
                    have HBWr : Hid (Below w.heap.size w wr) := HBW2.out.trans (HBL.out.mono hz2w)
                    by_cases hjq : j < p
                    · as_aux_lemma =>
                        obtain ⟨ad, s, hA2, hadb, hsk, hcs0⟩ := str_at (Reads.of_own HN2.out.now) hjq
                        subst hA2
                        have hcs : wr.cell? (ad.add j) = some (.string s) := (HBL.out.cell (by rw [block_of_add]; exact hadb)).trans hcs0
                        have hsk9 := Lib.hid hsk
                        have HRT : Hid (Reads wr wr.heap.size 1 ta q (strs tt)) := (HIN2.out.below HBWr.out).more HBWr.out.size
                        obtain ⟨hb, hbe⟩ : ∃ hb, inL tt s = hb := ⟨_, rfl⟩
                        have V : Hid (∀ n9, Calls Tryz.prog 20 #[.slice ta q tc, .string s] (wr.drewN n9) fun e w' => e = .returned (.bool hb) ∧ w' = wr.drewN n9) := fun n9 => by
                          have := lhas_any tt s ta tc q wr.heap.size HQ.out (wr.drewN n9) (HRT.out.drewN n9) (by omega)
                          rw [hbe] at this
                          exact this.mono fun e w' h => ⟨h.1, h.2.symm⟩
                        have HBE := Lib.hid hbe
                        have hb0r : b0 < wr.heap.size := by omega
                        have n1 : (0 : Int) ≤ (j : Int) := by omega
                        have n2 : (j : Int) < (p : Int) := by omega
                        clear hcs0 hsk hbe
                        go_wp2
                        go_quiet (first | (go_at_call 20; exact Calls.quiet_of_same (V.out _)))
                        cases hb
                        · have HFS : Hid (((lstS D).take (j + 1)).filter (fun s => !inL tt s) = ((lstS D).take j).filter (fun s => !inL tt s) ++ [s]) := by
                            show _ = _
                            rw [filter_snoc hsk9.out, HBE.out]
                            simp
                          have hol : (wr.drewN nq).ownsRow W2.heap.size 9 1 (.slice Al pl cl) pl (strs (((lstS D).take j).filter (fun s => !inL tt s))) := own_keep' HOL.out (fun _ _ => rfl)
                          go_wp2_with (at_builtin; refine wpList_append_any _ rfl _ _ 22 rfl W2.heap.size 9 i0 (.string ⟨#[]⟩) 1 16 Tryz.underlying22 hinf hz0 hz1' hz2' rfl (by decide) _ pl _ rfl (hol.alloc _) (wr.heap.size + 1) (some ⟨wr.heap.size, 0, none⟩) 1 1 [.string s] rfl ?d5 ?d6 ?d7 ?d8 ?d9 ?_)
                          case d5 => exact reads_newV (wr.drewN nq) _ _ _ rfl rfl rfl (Nat.lt_succ_self _)
                          case d6 => simp [Value.oneCell']
                          case d7 => unfold maxLen; omega
                          case d8 => omega
                          case d9 => simp; omega
                          intro v9 w9 ho9 hg9 hl9
                          obtain ⟨A9, c9, rfl, hc9⟩ := own_form ho9
                          have HO9 : Hid (w9.ownsRow W2.heap.size 9 1 (.slice A9 (pl + 1) c9) (pl + 1) (strs (((lstS D).take (j + 1)).filter (fun s => !inL tt s)))) := by
                            show World.ownsRow _ _ _ _ _ _ _
                            rw [HFS.out, strs_append]
                            exact ho9
                          have HB9 : Hid (Below W2.heap.size W2 w9) := ((drewN_below HBL.out nq).alloc hzl _).grown hg9 (by simp; omega) (fun b hb => (HOL.out.lt b hb).1)
                          clear ho9 hg9 hl9 hol
                          go_wp2
                          go_roundw
                          case rel => exact ⟨j + 1, ec, pl + 1, c9, A9, hjq, by go_num, rfl, rfl, hc9, by show _ = _; have := HJE.out; omega, by omega, by omega, by show _ = _; rw [HFS.out, List.length_append, HLL.out]; rfl, HO9.out, HB9.out⟩
                          case measure => simp [intOf]; omega
                        · have HFS : Hid (((lstS D).take (j + 1)).filter (fun s => !inL tt s) = ((lstS D).take j).filter (fun s => !inL tt s)) := by
                            show _ = _
                            rw [filter_snoc hsk9.out, HBE.out]
                            simp
                          go_wp2
                          go_roundw
                          case rel => exact ⟨j + 1, ec + 1, pl, cl, Al, hjq, by go_num, by go_num, rfl, hplc, by show _ = _; have := HJE.out; omega, by omega, by omega, by show _ = _; rw [HFS.out]; exact HLL.out, by rw [HFS.out]; exact own_keep' HOL.out (fun _ _ => rfl), drewN_below HBL.out _⟩
                          case measure => simp [intOf]; omega
                    · as_aux_lemma =>
                        have hjp : j = p := by omega
                        have hfl : ((lstS D).take j).filter (fun s => !inL tt s) = lstS (delS D tt) := by
                          rw [List.take_of_length_le (by rw [HN2.out.len]; omega)]
                          exact del_filter HN2.out.good tt
                        have hNl := HN2.out.bnew HBL.out
                        have hval : ((Maps.size D : Int) - (Maps.size (delS D tt) : Int)) = (ec : Int) := by
                          rw [HSD.out, ← lstS_len (HN2.out.good.dels tt), ← hfl, HLL.out]
                          have := HJE.out
                          omega
                        have qa := delF c1 S D tt ta tc wr hNl.set hNl.good (by rw [HSD.out]; omega) (by rw [HQ.out]; omega) (by rw [HQ.out]; exact (HIN2.out.below HBWr.out).more HBWr.out.size) (by rw [HQ.out]; exact fun h ad e => ⟨(hTA.out h ad e).1, by have := (hTA.out h ad e).2; have := HBWr.out.size; omega⟩) (fun s hs => by have := HSZT.out s hs; omega)
                        rw [HQ.out, hval] at qa
                        have hxS : b0 ∉ S := fun e => by
                          have := hNl.set.kind e ⟨_, _, HX.out⟩
                          revert this
                          decide
                        have HXS := Lib.hid hxS
                        have HOD : Hid (wr.ownsRow w.heap.size 9 1 (.slice Al pl cl) pl (strs (lstS (delS D tt)))) := by
                          show World.ownsRow _ _ _ _ _ _ _
                          rw [← hfl]
                          exact ownsRow_base HOL.out hz2w
                        have HLD : Hid ((lstS (delS D tt)).length = pl) := by show _ = _; rw [← hfl]; exact HLL.out
                        have HZD : Hid (∀ s ∈ lstS (delS D tt), s.size ≤ 9000) := fun s hs => HN2.out.sz s (by rw [← hfl] at hs; exact List.mem_of_mem_take (List.mem_filter.1 hs).1)
                        have HNL : Hid (∀ b, (Value.slice Al pl cl).ownBlock = some b → W2.heap.size ≤ b) := fun b hb => (HOL.out.lt b hb).1
                        have hq9 : ((ec : Int) != (ec : Int)) = false := by simp
                        clear hfl hNl hval hxS hjp
                        go_wp2_with fail
                        refine qa.mono ?_
                        rintro e w9 ⟨rfl, hs', hm'⟩
                        have HNT : Hid (NsAt w co bo ow g c1 S (delS D tt) (.slice Al pl cl) pl tv wv L w9) := HN2.out.turn HBL.out hm' hs' (HN2.out.good.dels tt) HOD.out HLD.out (fun b hb => .inl (HNL.out b hb)) HZD.out
                        have HX9 : Hid (w9.heap[b0]? = some (.cells #[.int .i64 kd, .slice ta q tc] 62 (0, 0))) := (hm'.block b0 (by omega) HXS.out).trans HX.out
                        clear hs' hm' qa x1
                        go_wp2
                        go_meet
                        exact ⟨S, _, pl, Al, cl, rfl, hplc, by omega, HNT.out, HX9.out⟩
                · as_aux_lemma =>
                    have hkb2 : (kd == 2) = false := by simp [hk2']
                    clear hk2'
                    go_wp2
                    go_meet
                    exact ⟨S, D, p, A2, cn, rfl, hpn, by omega, HN2.out, HX2.out⟩
            case rest =>
            obtain ⟨S', D', p', A', cn', rfl, hpc', hp9, HN3, HX3⟩ := hcut
            clear HN2 HX2 x0 HBW2
            have hL9 : L.length < 250 := by omega
            have hsD : Maps.size D' = p' := by rw [← lstS_len HN3.out.good]; exact HN3.out.len
            have HSD := Lib.hid hsD
            clear hsD
            have hzc2 : w.heap.size ≤ wc.heap.size := HN3.out.below.size
            obtain ⟨wo, hwo⟩ : ∃ wo : World, wo = wr := ⟨_, rfl⟩
            subst hwo
            go_wp2
            go_loopw [23] (fun i w6 => ∃ j : Nat, j ≤ q ∧ i = .int .i64 j ∧ Hid (NsAt w co bo ow g c1 S' D' (.slice A' p' cn') p' tv wv L w6) ∧ Hid (w6.heap[b0]? = some (.cells #[.int .i64 kd, .slice ta q tc] 62 (0, 0))) ∧ Hid (Below wc.heap.size wc w6)) (fun i _ => q - (intOf i).toNat)
            case atStart => exact ⟨0, Nat.zero_le _, rfl, HN3.out, HX3.out, Below.refl _ _⟩
            case round =>
              clear HN3 HX3
              obtain ⟨j, hj, rfl, HNL, HX, HBL⟩ := hrel
              have HBWr : Hid (Below w.heap.size w wr) := HNL.out.below
              have x1 : wr.cell? ⟨b0, 1, none⟩ = some (.slice ta q tc) := by rw [Lib.cell_of_heap HX.out]; rfl
              have hb0r : b0 < wr.heap.size := Blk.lt (t := 62) HX.out
              by_cases hjq : j < q
              · obtain ⟨ad, s, rfl, hadb, hsk, hcs0⟩ := str_at HIN2.out hjq
                have hcs : wr.cell? (ad.add j) = some (.string s) := (HBWr.out.cell (by rw [block_of_add]; exact hadb)).trans hcs0
                have hss9 := HSZT.out s (List.mem_of_getElem? hsk)
                have ho1 : wr.cell? ⟨bo, 0, none⟩ = some (.pointer (some ⟨co, 0, none⟩)) := by rw [Lib.cell_of_heap HNL.out.own]; rfl
                have hbor : bo < wr.heap.size := HNL.out.bolt
                have hzr2 : w.heap.size ≤ wr.heap.size := HBWr.out.size
                have hadr : ad.block < wr.heap.size := by omega
                obtain ⟨hv, hhv⟩ : ∃ hv, hasS D' s = hv := ⟨_, rfl⟩
                have hin9 : inL (lstS D') s = hv := by
                  rw [← hhv]
                  cases h : hasS D' s
                  · cases h2 : inL (lstS D') s
                    · rfl
                    · have := (mem_lstS HNL.out.good s).1 (inL_iff.1 h2)
                      rw [h] at this
                      cases this
                  · exact inL_iff.2 ((mem_lstS HNL.out.good s).2 h)
                have HSTAY : Hid (∀ W, Below wr.heap.size wr W → W.cell? ⟨b0, 1, none⟩ = some (.slice (some ad) q tc) ∧ W.cell? (ad.add j) = some (.string s) ∧ W.cell? ⟨bo, 0, none⟩ = some (.pointer (some ⟨co, 0, none⟩))) := fun W hW => ⟨(hW.cell (p := ⟨b0, 1, none⟩) (show b0 < _ from hb0r)).trans x1, (hW.cell (by rw [block_of_add]; exact hadr)).trans hcs, (hW.cell (p := ⟨bo, 0, none⟩) (show bo < _ from hbor)).trans ho1⟩
                have CH : Hid (∀ W, Below wr.heap.size wr W → Calls Tryz.prog 23 #[.pointer (some ⟨c1, 0, none⟩), .string s] W fun e w' => e = .returned (.bool hv) ∧ Below wr.heap.size wr w' ∧ w'.cell? ⟨b0, 1, none⟩ = some (.slice (some ad) q tc) ∧ w'.cell? (ad.add j) = some (.string s) ∧ w'.cell? ⟨bo, 0, none⟩ = some (.pointer (some ⟨co, 0, none⟩))) := fun W hW => by
                  have hset := HNL.out.set.below (hW)
                  have := hasF c1 S' D' s (by omega) W hset
                  rw [hhv] at this
                  refine this.mono fun e w' h => ?_
                  have hb9 : Below wr.heap.size wr w' := hW.trans (h.2.mono hW.size)
                  exact ⟨h.1, hb9, HSTAY.out w' hb9⟩
                have CH2 : Hid (∀ W, Below wr.heap.size wr W → Calls Tryz.prog 20 #[.slice A' p' cn', .string s] W fun e w' => e = .returned (.bool hv) ∧ W = w') := fun W hW => by
                  have hnow := own_below HNL.out.now hW (fun b hb => (HNL.out.now.lt b hb).2)
                  have := lhas_any (lstS D') s A' cn' p' W.heap.size HNL.out.len W (Reads.of_own hnow) (by omega)
                  rw [hin9] at this
                  exact this
                have hd0 : Below wr.heap.size wr wr.drew := (Below.refl _ _).drew
                have hs0 : wr.cell? ⟨b0, 1, none⟩ = some (.slice (some ad) q tc) ∧ wr.cell? (ad.add j) = some (.string s) ∧ wr.cell? ⟨bo, 0, none⟩ = some (.pointer (some ⟨co, 0, none⟩)) := ⟨x1, hcs, ho1⟩
                have HCO2 : Hid (owned = true → zero = false → c1 = co) := HCO.out
                have j1 : (0 : Int) ≤ (j : Int) := by omega
                have j2 : (j : Int) < (q : Int) := by omega
                clear hcs0 hsk hin9 hhv
                cases owned
                · cases hv
                  · as_aux_lemma =>
                      go_wp2
                      refine wp_region_held_drew (S := fun W => W.cell? ⟨b0, 1, none⟩ = some (.slice (some ad) q tc) ∧ W.cell? (ad.add j) = some (.string s) ∧ W.cell? ⟨bo, 0, none⟩ = some (.pointer (some ⟨co, 0, none⟩))) (by kernel_rfl) (show (wr.drew).cell? _ = _ ∧ (wr.drew).cell? _ = _ ∧ (wr.drew).cell? _ = _ from hs0) (fun hHeld => ?_)
                      refine wpAnyH_take (i := 0) (v := ?_) rfl (by kernel_rfl) (by kernel_rfl) (by kernel_rfl) (fun _ _ _ h => h) (Or.inl ⟨by rfl, ?_⟩) (by assumption) ?_
                      rotate_left
                      · intro X9 hSw; (try dsimp only at hSw); obtain ⟨hs1, hs2⟩ := hSw; (try simp only [List.getElem_toArray, List.getElem_cons_zero]); first | (go_simp; done) | (go_simp; with_reducible rfl)
                      try simp only [Act.put, List.setIfInBounds_toArray, List.set_cons_zero, List.set_cons_succ, List.getElem_toArray, List.getElem_cons_zero]
                      refine wpAnyH_take (i := 1) (v := ?_) rfl (by kernel_rfl) (by kernel_rfl) (by kernel_rfl) (fun _ _ _ h => h) (Or.inl ⟨by rfl, ?_⟩) (by assumption) ?_
                      rotate_left
                      · intro X9 hSw; (try dsimp only at hSw); obtain ⟨hs1, hs2⟩ := hSw; (try simp only [List.getElem_toArray, List.getElem_cons_succ, List.getElem_cons_zero]); first | (go_simp; done) | (go_simp; with_reducible rfl)
                      try simp only [Act.put, List.setIfInBounds_toArray, List.set_cons_zero, List.set_cons_succ, List.getElem_toArray, List.getElem_cons_succ, List.getElem_cons_zero]
                      refine wpAnyH_take (i := 2) (v := ?_) rfl (by kernel_rfl) (by kernel_rfl) (by kernel_rfl) (fun _ _ _ h => h) (Or.inl ⟨by rfl, ?_⟩) (by assumption) ?_
                      rotate_left
                      · intro X9 hSw; (try dsimp only at hSw); obtain ⟨hs1, hs2⟩ := hSw; (try simp only [List.getElem_toArray, List.getElem_cons_succ, List.getElem_cons_zero]); first | (go_simp; done) | (go_simp; with_reducible rfl)
                      try simp only [Act.put, List.setIfInBounds_toArray, List.set_cons_zero, List.set_cons_succ, List.getElem_toArray, List.getElem_cons_succ, List.getElem_cons_zero]
                      refine wpAnyH_take (i := 3) (v := ?_) rfl (by kernel_rfl) (by kernel_rfl) (by kernel_rfl) (fun _ _ _ h => h) (Or.inl ⟨by rfl, ?_⟩) (by assumption) ?_
                      rotate_left
                      · intro X9 hSw; (try dsimp only at hSw); obtain ⟨hs1, hs2⟩ := hSw; (try simp only [List.getElem_toArray, List.getElem_cons_succ, List.getElem_cons_zero]); first | (go_simp; done) | (go_simp; with_reducible rfl)
                      try simp only [Act.put, List.setIfInBounds_toArray, List.set_cons_zero, List.set_cons_succ, List.getElem_toArray, List.getElem_cons_succ, List.getElem_cons_zero]
                      refine wpAnyH_take (i := 4) (v := ?_) rfl (by kernel_rfl) (by kernel_rfl) (by kernel_rfl) (fun _ _ _ h => h) (Or.inl ⟨by rfl, ?_⟩) (by assumption) ?_
                      rotate_left
                      · intro X9 hSw; (try dsimp only at hSw); obtain ⟨hs1, hs2⟩ := hSw; (try simp only [List.getElem_toArray, List.getElem_cons_succ, List.getElem_cons_zero]); first | (go_simp; done) | (go_simp; with_reducible rfl)
                      try simp only [Act.put, List.setIfInBounds_toArray, List.set_cons_zero, List.set_cons_succ, List.getElem_toArray, List.getElem_cons_succ, List.getElem_cons_zero]
                      refine wpAnyH_take (i := 5) (v := ?_) rfl (by kernel_rfl) (by kernel_rfl) (by kernel_rfl) (fun _ _ _ h => h) (Or.inl ⟨by rfl, ?_⟩) (by assumption) ?_
                      rotate_left
                      · intro X9 hSw; (try dsimp only at hSw); obtain ⟨hs1, hs2⟩ := hSw; (try simp only [List.getElem_toArray, List.getElem_cons_succ, List.getElem_cons_zero]); first | (go_simp; done) | (go_simp; with_reducible rfl)
                      try simp only [Act.put, List.setIfInBounds_toArray, List.set_cons_zero, List.set_cons_succ, List.getElem_toArray, List.getElem_cons_succ, List.getElem_cons_zero]
                      refine wpAnyH_take (i := 7) (v := ?_) rfl (by kernel_rfl) (by kernel_rfl) (by kernel_rfl) (fun _ _ _ h => h) (Or.inl ⟨by rfl, ?_⟩) (by assumption) ?_
                      rotate_left
                      · intro X9 hSw; (try dsimp only at hSw); obtain ⟨hs1, hs2⟩ := hSw; (try simp only [List.getElem_toArray, List.getElem_cons_succ, List.getElem_cons_zero]); first | (go_simp; done) | (go_simp; with_reducible rfl)
                      try simp only [Act.put, List.setIfInBounds_toArray, List.set_cons_zero, List.set_cons_succ, List.getElem_toArray, List.getElem_cons_succ, List.getElem_cons_zero]
                      refine wpAnyH_take (i := 8) (v := ?_) rfl (by kernel_rfl) (by kernel_rfl) (by kernel_rfl) (fun _ _ _ h => h) (Or.inl ⟨by rfl, ?_⟩) (by assumption) ?_
                      rotate_left
                      · intro X9 hSw; (try dsimp only at hSw); obtain ⟨hs1, hs2⟩ := hSw; (try simp only [List.getElem_toArray, List.getElem_cons_succ, List.getElem_cons_zero]); first | (go_simp; done) | (go_simp; with_reducible rfl)
                      try simp only [Act.put, List.setIfInBounds_toArray, List.set_cons_zero, List.set_cons_succ, List.getElem_toArray, List.getElem_cons_succ, List.getElem_cons_zero]
                      refine wpAnyH_take (i := 9) (v := ?_) rfl (by kernel_rfl) (by kernel_rfl) (by kernel_rfl) (fun _ _ _ h => h) (Or.inl ⟨by rfl, ?_⟩) (by assumption) ?_
                      rotate_left
                      · intro X9 hSw; (try dsimp only at hSw); obtain ⟨hs1, hs2⟩ := hSw; (try simp only [List.getElem_toArray, List.getElem_cons_succ, List.getElem_cons_zero]); first | (go_simp; done) | (go_simp; with_reducible rfl)
                      try simp only [Act.put, List.setIfInBounds_toArray, List.set_cons_zero, List.set_cons_succ, List.getElem_toArray, List.getElem_cons_succ, List.getElem_cons_zero]
                      refine wpAnyH_take (i := 10) (v := ?_) rfl (by kernel_rfl) (by kernel_rfl) (by kernel_rfl) (fun _ _ _ h => h) (Or.inl ⟨by rfl, ?_⟩) (by assumption) ?_
                      rotate_left
                      · intro X9 hSw; (try dsimp only at hSw); obtain ⟨hs1, hs2⟩ := hSw; (try simp only [List.getElem_toArray, List.getElem_cons_succ, List.getElem_cons_zero]); first | (go_simp; done) | (go_simp; with_reducible rfl)
                      try simp only [Act.put, List.setIfInBounds_toArray, List.set_cons_zero, List.set_cons_succ, List.getElem_toArray, List.getElem_cons_succ, List.getElem_cons_zero]
                      refine wpAnyH_take (i := 11) (v := ?_) rfl (by kernel_rfl) (by kernel_rfl) (by kernel_rfl) (fun _ _ _ h => h) (Or.inl ⟨by rfl, ?_⟩) (by assumption) ?_
                      rotate_left
                      · intro X9 hSw; (try dsimp only at hSw); obtain ⟨hs1, hs2⟩ := hSw; (try simp only [List.getElem_toArray, List.getElem_cons_succ, List.getElem_cons_zero]); first | (go_simp; done) | (go_simp; with_reducible rfl)
                      try simp only [Act.put, List.setIfInBounds_toArray, List.set_cons_zero, List.set_cons_succ, List.getElem_toArray, List.getElem_cons_succ, List.getElem_cons_zero]
                      refine wpAnyH_take (i := 12) (v := ?_) rfl (by kernel_rfl) (by kernel_rfl) (by kernel_rfl) (fun _ _ _ h => h) (Or.inl ⟨by rfl, ?_⟩) (by assumption) ?_
                      rotate_left
                      · intro X9 hSw; (try dsimp only at hSw); obtain ⟨hs1, hs2⟩ := hSw; (try simp only [List.getElem_toArray, List.getElem_cons_succ, List.getElem_cons_zero]); first | (go_simp; done) | (go_simp; with_reducible rfl)
                      try simp only [Act.put, List.setIfInBounds_toArray, List.set_cons_zero, List.set_cons_succ, List.getElem_toArray, List.getElem_cons_succ, List.getElem_cons_zero]
                      refine wpAnyH_ready (rs := [6]) (by kernel_rfl) (by simp) (AllReadyH.cons rfl (fun K hK => ?_) (AllReadyH.nil))
                      try simp only [List.getElem_toArray, List.getElem_cons_succ, List.getElem_cons_zero]
                      go_simp
                      refine (CH.out _ hd0).mono ?_
                      rintro e w2 ⟨rfl, hbw, hcw⟩
                      refine hK.out _ _ (hcw) (fun hHeld => ?_)
                      clear hK K
                      try simp only [Act.put, List.setIfInBounds_toArray, List.set_cons_zero, List.set_cons_succ, List.getElem_toArray, List.getElem_cons_succ, List.getElem_cons_zero]
                      refine wpAnyH_ready (rs := [13]) (by kernel_rfl) (by simp) (AllReadyH.cons rfl (fun K hK => ?_) (AllReadyH.nil))
                      try simp only [List.getElem_toArray, List.getElem_cons_succ, List.getElem_cons_zero]
                      go_simp
                      refine (CH2.out _ hbw).mono ?_
                      rintro e w3 ⟨rfl, rfl⟩
                      refine hK.out _ _ (hcw) (fun hHeld => ?_)
                      clear hK K
                      try simp only [Act.put, List.setIfInBounds_toArray, List.set_cons_zero, List.set_cons_succ, List.getElem_toArray, List.getElem_cons_succ, List.getElem_cons_zero]
                      refine wpAnyH_take (i := 14) (v := ?_) rfl (by kernel_rfl) (by kernel_rfl) (by kernel_rfl) (fun _ _ _ h => h) (Or.inl ⟨by rfl, ?_⟩) (by assumption) ?_
                      rotate_left
                      · intro X9 hSw; (try dsimp only at hSw); obtain ⟨hs1, hs2⟩ := hSw; (try simp only [List.getElem_toArray, List.getElem_cons_succ, List.getElem_cons_zero]); first | (go_simp; done) | (go_simp; with_reducible rfl)
                      try simp only [Act.put, List.setIfInBounds_toArray, List.set_cons_zero, List.set_cons_succ, List.getElem_toArray, List.getElem_cons_succ, List.getElem_cons_zero]
                      refine wpAnyH_take (i := 15) (v := ?_) rfl (by kernel_rfl) (by kernel_rfl) (by kernel_rfl) (fun _ _ _ h => h) (Or.inl ⟨by rfl, ?_⟩) (by assumption) ?_
                      rotate_left
                      · intro X9 hSw; (try dsimp only at hSw); obtain ⟨hs1, hs2⟩ := hSw; (try simp only [List.getElem_toArray, List.getElem_cons_succ, List.getElem_cons_zero]); first | (go_simp; done) | (go_simp; with_reducible rfl)
                      try simp only [Act.put, List.setIfInBounds_toArray, List.set_cons_zero, List.set_cons_succ, List.getElem_toArray, List.getElem_cons_succ, List.getElem_cons_zero]
                      refine wpAnyH_take (i := 16) (v := ?_) rfl (by kernel_rfl) (by kernel_rfl) (by kernel_rfl) (fun _ _ _ h => h) (Or.inl ⟨by rfl, ?_⟩) (by assumption) ?_
                      rotate_left
                      · intro X9 hSw; (try dsimp only at hSw); obtain ⟨hs1, hs2⟩ := hSw; (try simp only [List.getElem_toArray, List.getElem_cons_succ, List.getElem_cons_zero]); first | (go_simp; done) | (go_simp; with_reducible rfl)
                      try simp only [Act.put, List.setIfInBounds_toArray, List.set_cons_zero, List.set_cons_succ, List.getElem_toArray, List.getElem_cons_succ, List.getElem_cons_zero]
                      refine wpAnyH_take (i := 17) (v := ?_) rfl (by kernel_rfl) (by kernel_rfl) (by kernel_rfl) (fun _ _ _ h => h) (Or.inl ⟨by rfl, ?_⟩) (by assumption) ?_
                      rotate_left
                      · intro X9 hSw; (try dsimp only at hSw); obtain ⟨hs1, hs2⟩ := hSw; (try simp only [List.getElem_toArray, List.getElem_cons_succ, List.getElem_cons_zero]); first | (go_simp; done) | (go_simp; with_reducible rfl)
                      try simp only [Act.put, List.setIfInBounds_toArray, List.set_cons_zero, List.set_cons_succ, List.getElem_toArray, List.getElem_cons_succ, List.getElem_cons_zero]
                      refine wpAnyH_take (i := 18) (v := undef) rfl (by kernel_rfl) (by kernel_rfl) (by kernel_rfl) (fun _ _ _ h => h) (Or.inr ⟨by rfl, rfl⟩) (by assumption) ?_
                      try simp only [Act.put, List.setIfInBounds_toArray, List.set_cons_zero, List.set_cons_succ, List.getElem_toArray, List.getElem_cons_succ, List.getElem_cons_zero]
                      refine wpAnyH_take (i := 19) (v := undef) rfl (by kernel_rfl) (by kernel_rfl) (by kernel_rfl) (fun _ _ _ h => h) (Or.inr ⟨by rfl, rfl⟩) (by assumption) ?_
                      try simp only [Act.put, List.setIfInBounds_toArray, List.set_cons_zero, List.set_cons_succ, List.getElem_toArray, List.getElem_cons_succ, List.getElem_cons_zero]
                      refine wpAnyH_take (i := 20) (v := ?_) rfl (by kernel_rfl) (by kernel_rfl) (by kernel_rfl) (fun _ _ _ h => h) (Or.inl ⟨by rfl, ?_⟩) (by assumption) ?_
                      rotate_left
                      · intro X9 hSw; (try dsimp only at hSw); obtain ⟨hs1, hs2⟩ := hSw; (try simp only [List.getElem_toArray, List.getElem_cons_succ, List.getElem_cons_zero]); first | (go_simp; done) | (go_simp; with_reducible rfl)
                      try simp only [Act.put, List.setIfInBounds_toArray, List.set_cons_zero, List.set_cons_succ, List.getElem_toArray, List.getElem_cons_succ, List.getElem_cons_zero]
                      refine wpAnyH_take (i := 21) (v := ?_) rfl (by kernel_rfl) (by kernel_rfl) (by kernel_rfl) (fun _ _ _ h => h) (Or.inl ⟨by rfl, ?_⟩) (by assumption) ?_
                      rotate_left
                      · intro X9 hSw; (try dsimp only at hSw); obtain ⟨hs1, hs2⟩ := hSw; (try simp only [List.getElem_toArray, List.getElem_cons_succ, List.getElem_cons_zero]); first | (go_simp; done) | (go_simp; with_reducible rfl)
                      try simp only [Act.put, List.setIfInBounds_toArray, List.set_cons_zero, List.set_cons_succ, List.getElem_toArray, List.getElem_cons_succ, List.getElem_cons_zero]
                      refine wpAnyH_take (i := 22) (v := undef) rfl (by kernel_rfl) (by kernel_rfl) (by kernel_rfl) (fun _ _ _ h => h) (Or.inr ⟨by rfl, rfl⟩) (by assumption) ?_
                      try simp only [Act.put, List.setIfInBounds_toArray, List.set_cons_zero, List.set_cons_succ, List.getElem_toArray, List.getElem_cons_succ, List.getElem_cons_zero]
                      refine wpAnyH_take (i := 23) (v := undef) rfl (by kernel_rfl) (by kernel_rfl) (by kernel_rfl) (fun _ _ _ h => h) (Or.inr ⟨by rfl, rfl⟩) (by assumption) ?_
                      try simp only [Act.put, List.setIfInBounds_toArray, List.set_cons_zero, List.set_cons_succ, List.getElem_toArray, List.getElem_cons_succ, List.getElem_cons_zero]
                      refine wpAnyH_take (i := 24) (v := undef) rfl (by kernel_rfl) (by kernel_rfl) (by kernel_rfl) (fun _ _ _ h => h) (Or.inr ⟨by rfl, rfl⟩) (by assumption) ?_
                      try simp only [Act.put, List.setIfInBounds_toArray, List.set_cons_zero, List.set_cons_succ, List.getElem_toArray, List.getElem_cons_succ, List.getElem_cons_zero]
                      refine wpAnyH_take (i := 25) (v := undef) rfl (by kernel_rfl) (by kernel_rfl) (by kernel_rfl) (fun _ _ _ h => h) (Or.inr ⟨by rfl, rfl⟩) (by assumption) ?_
                      try simp only [Act.put, List.setIfInBounds_toArray, List.set_cons_zero, List.set_cons_succ, List.getElem_toArray, List.getElem_cons_succ, List.getElem_cons_zero]
                      refine wpAnyH_take (i := 26) (v := undef) rfl (by kernel_rfl) (by kernel_rfl) (by kernel_rfl) (fun _ _ _ h => h) (Or.inr ⟨by rfl, rfl⟩) (by assumption) ?_
                      try simp only [Act.put, List.setIfInBounds_toArray, List.set_cons_zero, List.set_cons_succ, List.getElem_toArray, List.getElem_cons_succ, List.getElem_cons_zero]
                      refine wpAnyH_take (i := 27) (v := undef) rfl (by kernel_rfl) (by kernel_rfl) (by kernel_rfl) (fun _ _ _ h => h) (Or.inr ⟨by rfl, rfl⟩) (by assumption) ?_
                      try simp only [Act.put, List.setIfInBounds_toArray, List.set_cons_zero, List.set_cons_succ, List.getElem_toArray, List.getElem_cons_succ, List.getElem_cons_zero]
                      refine wpAnyH_take (i := 28) (v := undef) rfl (by kernel_rfl) (by kernel_rfl) (by kernel_rfl) (fun _ _ _ h => h) (Or.inr ⟨by rfl, rfl⟩) (by assumption) ?_
                      try simp only [Act.put, List.setIfInBounds_toArray, List.set_cons_zero, List.set_cons_succ, List.getElem_toArray, List.getElem_cons_succ, List.getElem_cons_zero]
                      refine wpAnyH_take (i := 29) (v := undef) rfl (by kernel_rfl) (by kernel_rfl) (by kernel_rfl) (fun _ _ _ h => h) (Or.inr ⟨by rfl, rfl⟩) (by assumption) ?_
                      try simp only [Act.put, List.setIfInBounds_toArray, List.set_cons_zero, List.set_cons_succ, List.getElem_toArray, List.getElem_cons_succ, List.getElem_cons_zero]
                      refine wpAnyH_take (i := 30) (v := undef) rfl (by kernel_rfl) (by kernel_rfl) (by kernel_rfl) (fun _ _ _ h => h) (Or.inr ⟨by rfl, rfl⟩) (by assumption) ?_
                      try simp only [Act.put, List.setIfInBounds_toArray, List.set_cons_zero, List.set_cons_succ, List.getElem_toArray, List.getElem_cons_succ, List.getElem_cons_zero]
                      refine wpAnyH_take (i := 31) (v := undef) rfl (by kernel_rfl) (by kernel_rfl) (by kernel_rfl) (fun _ _ _ h => h) (Or.inr ⟨by rfl, rfl⟩) (by assumption) ?_
                      try simp only [Act.put, List.setIfInBounds_toArray, List.set_cons_zero, List.set_cons_succ, List.getElem_toArray, List.getElem_cons_succ, List.getElem_cons_zero]
                      refine wpAnyH_take (i := 32) (v := undef) rfl (by kernel_rfl) (by kernel_rfl) (by kernel_rfl) (fun _ _ _ h => h) (Or.inr ⟨by rfl, rfl⟩) (by assumption) ?_
                      try simp only [Act.put, List.setIfInBounds_toArray, List.set_cons_zero, List.set_cons_succ, List.getElem_toArray, List.getElem_cons_succ, List.getElem_cons_zero]
                      refine wpAnyH_take (i := 33) (v := undef) rfl (by kernel_rfl) (by kernel_rfl) (by kernel_rfl) (fun _ _ _ h => h) (Or.inr ⟨by rfl, rfl⟩) (by assumption) ?_
                      try simp only [Act.put, List.setIfInBounds_toArray, List.set_cons_zero, List.set_cons_succ, List.getElem_toArray, List.getElem_cons_succ, List.getElem_cons_zero]
                      refine wpAnyH_take (i := 34) (v := undef) rfl (by kernel_rfl) (by kernel_rfl) (by kernel_rfl) (fun _ _ _ h => h) (Or.inr ⟨by rfl, rfl⟩) (by assumption) ?_
                      try simp only [Act.put, List.setIfInBounds_toArray, List.set_cons_zero, List.set_cons_succ, List.getElem_toArray, List.getElem_cons_succ, List.getElem_cons_zero]
                      refine wpAnyH_take (i := 35) (v := undef) rfl (by kernel_rfl) (by kernel_rfl) (by kernel_rfl) (fun _ _ _ h => h) (Or.inr ⟨by rfl, rfl⟩) (by assumption) ?_
                      try simp only [Act.put, List.setIfInBounds_toArray, List.set_cons_zero, List.set_cons_succ, List.getElem_toArray, List.getElem_cons_succ, List.getElem_cons_zero]
                      refine wpAnyH_take (i := 36) (v := undef) rfl (by kernel_rfl) (by kernel_rfl) (by kernel_rfl) (fun _ _ _ h => h) (Or.inr ⟨by rfl, rfl⟩) (by assumption) ?_
                      try simp only [Act.put, List.setIfInBounds_toArray, List.set_cons_zero, List.set_cons_succ, List.getElem_toArray, List.getElem_cons_succ, List.getElem_cons_zero]
                      refine wpAnyH_take (i := 37) (v := undef) rfl (by kernel_rfl) (by kernel_rfl) (by kernel_rfl) (fun _ _ _ h => h) (Or.inr ⟨by rfl, rfl⟩) (by assumption) ?_
                      try simp only [Act.put, List.setIfInBounds_toArray, List.set_cons_zero, List.set_cons_succ, List.getElem_toArray, List.getElem_cons_succ, List.getElem_cons_zero]
                      refine wpAnyH_take (i := 38) (v := ?_) rfl (by kernel_rfl) (by kernel_rfl) (by kernel_rfl) (fun _ _ _ h => h) (Or.inl ⟨by rfl, ?_⟩) (by assumption) ?_
                      rotate_left
                      · intro X9 hSw; (try dsimp only at hSw); obtain ⟨hs1, hs2⟩ := hSw; (try simp only [List.getElem_toArray, List.getElem_cons_succ, List.getElem_cons_zero]); first | (go_simp; done) | (go_simp; with_reducible rfl)
                      try simp only [Act.put, List.setIfInBounds_toArray, List.set_cons_zero, List.set_cons_succ, List.getElem_toArray, List.getElem_cons_succ, List.getElem_cons_zero]
                      refine wpAnyH_take (i := 39) (v := ?_) rfl (by kernel_rfl) (by kernel_rfl) (by kernel_rfl) (fun _ _ _ h => h) (Or.inl ⟨by rfl, ?_⟩) (by assumption) ?_
                      rotate_left
                      · intro X9 hSw; (try dsimp only at hSw); obtain ⟨hs1, hs2⟩ := hSw; (try simp only [List.getElem_toArray, List.getElem_cons_succ, List.getElem_cons_zero]); first | (go_simp; done) | (go_simp; with_reducible rfl)
                      try simp only [Act.put, List.setIfInBounds_toArray, List.set_cons_zero, List.set_cons_succ, List.getElem_toArray, List.getElem_cons_succ, List.getElem_cons_zero]
                      refine wpAnyH_done (by kernel_rfl) ?_ _
                      have HB9 := Lib.hid hbw
                      clear hbw hcw hd0 hs0
                      go_wp2
                      go_roundw
                      case rel => exact ⟨j + 1, hjq, by go_num, HNL.out.bnew HB9.out, (HB9.out.block b0 hb0r).trans HX.out, HBL.out.trans (HB9.out.mono HBL.out.size)⟩
                      case measure => simp [intOf]; omega
                  · as_aux_lemma =>
                      go_wp2
                      refine wp_region_held_drew (S := fun W => W.cell? ⟨b0, 1, none⟩ = some (.slice (some ad) q tc) ∧ W.cell? (ad.add j) = some (.string s) ∧ W.cell? ⟨bo, 0, none⟩ = some (.pointer (some ⟨co, 0, none⟩))) (by kernel_rfl) (show (wr.drew).cell? _ = _ ∧ (wr.drew).cell? _ = _ ∧ (wr.drew).cell? _ = _ from hs0) (fun hHeld => ?_)
                      refine wpAnyH_take (i := 0) (v := ?_) rfl (by kernel_rfl) (by kernel_rfl) (by kernel_rfl) (fun _ _ _ h => h) (Or.inl ⟨by rfl, ?_⟩) (by assumption) ?_
                      rotate_left
                      · intro X9 hSw; (try dsimp only at hSw); obtain ⟨hs1, hs2⟩ := hSw; (try simp only [List.getElem_toArray, List.getElem_cons_zero]); first | (go_simp; done) | (go_simp; with_reducible rfl)
                      try simp only [Act.put, List.setIfInBounds_toArray, List.set_cons_zero, List.set_cons_succ, List.getElem_toArray, List.getElem_cons_zero]
                      refine wpAnyH_take (i := 1) (v := ?_) rfl (by kernel_rfl) (by kernel_rfl) (by kernel_rfl) (fun _ _ _ h => h) (Or.inl ⟨by rfl, ?_⟩) (by assumption) ?_
                      rotate_left
                      · intro X9 hSw; (try dsimp only at hSw); obtain ⟨hs1, hs2⟩ := hSw; (try simp only [List.getElem_toArray, List.getElem_cons_succ, List.getElem_cons_zero]); first | (go_simp; done) | (go_simp; with_reducible rfl)
                      try simp only [Act.put, List.setIfInBounds_toArray, List.set_cons_zero, List.set_cons_succ, List.getElem_toArray, List.getElem_cons_succ, List.getElem_cons_zero]
                      refine wpAnyH_take (i := 2) (v := ?_) rfl (by kernel_rfl) (by kernel_rfl) (by kernel_rfl) (fun _ _ _ h => h) (Or.inl ⟨by rfl, ?_⟩) (by assumption) ?_
                      rotate_left
                      · intro X9 hSw; (try dsimp only at hSw); obtain ⟨hs1, hs2⟩ := hSw; (try simp only [List.getElem_toArray, List.getElem_cons_succ, List.getElem_cons_zero]); first | (go_simp; done) | (go_simp; with_reducible rfl)
                      try simp only [Act.put, List.setIfInBounds_toArray, List.set_cons_zero, List.set_cons_succ, List.getElem_toArray, List.getElem_cons_succ, List.getElem_cons_zero]
                      refine wpAnyH_take (i := 3) (v := ?_) rfl (by kernel_rfl) (by kernel_rfl) (by kernel_rfl) (fun _ _ _ h => h) (Or.inl ⟨by rfl, ?_⟩) (by assumption) ?_
                      rotate_left
                      · intro X9 hSw; (try dsimp only at hSw); obtain ⟨hs1, hs2⟩ := hSw; (try simp only [List.getElem_toArray, List.getElem_cons_succ, List.getElem_cons_zero]); first | (go_simp; done) | (go_simp; with_reducible rfl)
                      try simp only [Act.put, List.setIfInBounds_toArray, List.set_cons_zero, List.set_cons_succ, List.getElem_toArray, List.getElem_cons_succ, List.getElem_cons_zero]
                      refine wpAnyH_take (i := 4) (v := ?_) rfl (by kernel_rfl) (by kernel_rfl) (by kernel_rfl) (fun _ _ _ h => h) (Or.inl ⟨by rfl, ?_⟩) (by assumption) ?_
                      rotate_left
                      · intro X9 hSw; (try dsimp only at hSw); obtain ⟨hs1, hs2⟩ := hSw; (try simp only [List.getElem_toArray, List.getElem_cons_succ, List.getElem_cons_zero]); first | (go_simp; done) | (go_simp; with_reducible rfl)
                      try simp only [Act.put, List.setIfInBounds_toArray, List.set_cons_zero, List.set_cons_succ, List.getElem_toArray, List.getElem_cons_succ, List.getElem_cons_zero]
                      refine wpAnyH_take (i := 5) (v := ?_) rfl (by kernel_rfl) (by kernel_rfl) (by kernel_rfl) (fun _ _ _ h => h) (Or.inl ⟨by rfl, ?_⟩) (by assumption) ?_
                      rotate_left
                      · intro X9 hSw; (try dsimp only at hSw); obtain ⟨hs1, hs2⟩ := hSw; (try simp only [List.getElem_toArray, List.getElem_cons_succ, List.getElem_cons_zero]); first | (go_simp; done) | (go_simp; with_reducible rfl)
                      try simp only [Act.put, List.setIfInBounds_toArray, List.set_cons_zero, List.set_cons_succ, List.getElem_toArray, List.getElem_cons_succ, List.getElem_cons_zero]
                      refine wpAnyH_take (i := 7) (v := ?_) rfl (by kernel_rfl) (by kernel_rfl) (by kernel_rfl) (fun _ _ _ h => h) (Or.inl ⟨by rfl, ?_⟩) (by assumption) ?_
                      rotate_left
                      · intro X9 hSw; (try dsimp only at hSw); obtain ⟨hs1, hs2⟩ := hSw; (try simp only [List.getElem_toArray, List.getElem_cons_succ, List.getElem_cons_zero]); first | (go_simp; done) | (go_simp; with_reducible rfl)
                      try simp only [Act.put, List.setIfInBounds_toArray, List.set_cons_zero, List.set_cons_succ, List.getElem_toArray, List.getElem_cons_succ, List.getElem_cons_zero]
                      refine wpAnyH_take (i := 8) (v := ?_) rfl (by kernel_rfl) (by kernel_rfl) (by kernel_rfl) (fun _ _ _ h => h) (Or.inl ⟨by rfl, ?_⟩) (by assumption) ?_
                      rotate_left
                      · intro X9 hSw; (try dsimp only at hSw); obtain ⟨hs1, hs2⟩ := hSw; (try simp only [List.getElem_toArray, List.getElem_cons_succ, List.getElem_cons_zero]); first | (go_simp; done) | (go_simp; with_reducible rfl)
                      try simp only [Act.put, List.setIfInBounds_toArray, List.set_cons_zero, List.set_cons_succ, List.getElem_toArray, List.getElem_cons_succ, List.getElem_cons_zero]
                      refine wpAnyH_take (i := 9) (v := ?_) rfl (by kernel_rfl) (by kernel_rfl) (by kernel_rfl) (fun _ _ _ h => h) (Or.inl ⟨by rfl, ?_⟩) (by assumption) ?_
                      rotate_left
                      · intro X9 hSw; (try dsimp only at hSw); obtain ⟨hs1, hs2⟩ := hSw; (try simp only [List.getElem_toArray, List.getElem_cons_succ, List.getElem_cons_zero]); first | (go_simp; done) | (go_simp; with_reducible rfl)
                      try simp only [Act.put, List.setIfInBounds_toArray, List.set_cons_zero, List.set_cons_succ, List.getElem_toArray, List.getElem_cons_succ, List.getElem_cons_zero]
                      refine wpAnyH_take (i := 10) (v := ?_) rfl (by kernel_rfl) (by kernel_rfl) (by kernel_rfl) (fun _ _ _ h => h) (Or.inl ⟨by rfl, ?_⟩) (by assumption) ?_
                      rotate_left
                      · intro X9 hSw; (try dsimp only at hSw); obtain ⟨hs1, hs2⟩ := hSw; (try simp only [List.getElem_toArray, List.getElem_cons_succ, List.getElem_cons_zero]); first | (go_simp; done) | (go_simp; with_reducible rfl)
                      try simp only [Act.put, List.setIfInBounds_toArray, List.set_cons_zero, List.set_cons_succ, List.getElem_toArray, List.getElem_cons_succ, List.getElem_cons_zero]
                      refine wpAnyH_take (i := 11) (v := ?_) rfl (by kernel_rfl) (by kernel_rfl) (by kernel_rfl) (fun _ _ _ h => h) (Or.inl ⟨by rfl, ?_⟩) (by assumption) ?_
                      rotate_left
                      · intro X9 hSw; (try dsimp only at hSw); obtain ⟨hs1, hs2⟩ := hSw; (try simp only [List.getElem_toArray, List.getElem_cons_succ, List.getElem_cons_zero]); first | (go_simp; done) | (go_simp; with_reducible rfl)
                      try simp only [Act.put, List.setIfInBounds_toArray, List.set_cons_zero, List.set_cons_succ, List.getElem_toArray, List.getElem_cons_succ, List.getElem_cons_zero]
                      refine wpAnyH_take (i := 12) (v := ?_) rfl (by kernel_rfl) (by kernel_rfl) (by kernel_rfl) (fun _ _ _ h => h) (Or.inl ⟨by rfl, ?_⟩) (by assumption) ?_
                      rotate_left
                      · intro X9 hSw; (try dsimp only at hSw); obtain ⟨hs1, hs2⟩ := hSw; (try simp only [List.getElem_toArray, List.getElem_cons_succ, List.getElem_cons_zero]); first | (go_simp; done) | (go_simp; with_reducible rfl)
                      try simp only [Act.put, List.setIfInBounds_toArray, List.set_cons_zero, List.set_cons_succ, List.getElem_toArray, List.getElem_cons_succ, List.getElem_cons_zero]
                      refine wpAnyH_ready (rs := [6]) (by kernel_rfl) (by simp) (AllReadyH.cons rfl (fun K hK => ?_) (AllReadyH.nil))
                      try simp only [List.getElem_toArray, List.getElem_cons_succ, List.getElem_cons_zero]
                      go_simp
                      refine (CH.out _ hd0).mono ?_
                      rintro e w2 ⟨rfl, hbw, hcw⟩
                      refine hK.out _ _ (hcw) (fun hHeld => ?_)
                      clear hK K
                      try simp only [Act.put, List.setIfInBounds_toArray, List.set_cons_zero, List.set_cons_succ, List.getElem_toArray, List.getElem_cons_succ, List.getElem_cons_zero]
                      refine wpAnyH_ready (rs := [13]) (by kernel_rfl) (by simp) (AllReadyH.cons rfl (fun K hK => ?_) (AllReadyH.nil))
                      try simp only [List.getElem_toArray, List.getElem_cons_succ, List.getElem_cons_zero]
                      go_simp
                      refine (CH2.out _ hbw).mono ?_
                      rintro e w3 ⟨rfl, rfl⟩
                      refine hK.out _ _ (hcw) (fun hHeld => ?_)
                      clear hK K
                      try simp only [Act.put, List.setIfInBounds_toArray, List.set_cons_zero, List.set_cons_succ, List.getElem_toArray, List.getElem_cons_succ, List.getElem_cons_zero]
                      refine wpAnyH_take (i := 14) (v := ?_) rfl (by kernel_rfl) (by kernel_rfl) (by kernel_rfl) (fun _ _ _ h => h) (Or.inl ⟨by rfl, ?_⟩) (by assumption) ?_
                      rotate_left
                      · intro X9 hSw; (try dsimp only at hSw); obtain ⟨hs1, hs2⟩ := hSw; (try simp only [List.getElem_toArray, List.getElem_cons_succ, List.getElem_cons_zero]); first | (go_simp; done) | (go_simp; with_reducible rfl)
                      try simp only [Act.put, List.setIfInBounds_toArray, List.set_cons_zero, List.set_cons_succ, List.getElem_toArray, List.getElem_cons_succ, List.getElem_cons_zero]
                      refine wpAnyH_take (i := 15) (v := ?_) rfl (by kernel_rfl) (by kernel_rfl) (by kernel_rfl) (fun _ _ _ h => h) (Or.inl ⟨by rfl, ?_⟩) (by assumption) ?_
                      rotate_left
                      · intro X9 hSw; (try dsimp only at hSw); obtain ⟨hs1, hs2⟩ := hSw; (try simp only [List.getElem_toArray, List.getElem_cons_succ, List.getElem_cons_zero]); first | (go_simp; done) | (go_simp; with_reducible rfl)
                      try simp only [Act.put, List.setIfInBounds_toArray, List.set_cons_zero, List.set_cons_succ, List.getElem_toArray, List.getElem_cons_succ, List.getElem_cons_zero]
                      refine wpAnyH_take (i := 16) (v := ?_) rfl (by kernel_rfl) (by kernel_rfl) (by kernel_rfl) (fun _ _ _ h => h) (Or.inl ⟨by rfl, ?_⟩) (by assumption) ?_
                      rotate_left
                      · intro X9 hSw; (try dsimp only at hSw); obtain ⟨hs1, hs2⟩ := hSw; (try simp only [List.getElem_toArray, List.getElem_cons_succ, List.getElem_cons_zero]); first | (go_simp; done) | (go_simp; with_reducible rfl)
                      try simp only [Act.put, List.setIfInBounds_toArray, List.set_cons_zero, List.set_cons_succ, List.getElem_toArray, List.getElem_cons_succ, List.getElem_cons_zero]
                      refine wpAnyH_take (i := 17) (v := ?_) rfl (by kernel_rfl) (by kernel_rfl) (by kernel_rfl) (fun _ _ _ h => h) (Or.inl ⟨by rfl, ?_⟩) (by assumption) ?_
                      rotate_left
                      · intro X9 hSw; (try dsimp only at hSw); obtain ⟨hs1, hs2⟩ := hSw; (try simp only [List.getElem_toArray, List.getElem_cons_succ, List.getElem_cons_zero]); first | (go_simp; done) | (go_simp; with_reducible rfl)
                      try simp only [Act.put, List.setIfInBounds_toArray, List.set_cons_zero, List.set_cons_succ, List.getElem_toArray, List.getElem_cons_succ, List.getElem_cons_zero]
                      refine wpAnyH_take (i := 18) (v := undef) rfl (by kernel_rfl) (by kernel_rfl) (by kernel_rfl) (fun _ _ _ h => h) (Or.inr ⟨by rfl, rfl⟩) (by assumption) ?_
                      try simp only [Act.put, List.setIfInBounds_toArray, List.set_cons_zero, List.set_cons_succ, List.getElem_toArray, List.getElem_cons_succ, List.getElem_cons_zero]
                      refine wpAnyH_take (i := 19) (v := undef) rfl (by kernel_rfl) (by kernel_rfl) (by kernel_rfl) (fun _ _ _ h => h) (Or.inr ⟨by rfl, rfl⟩) (by assumption) ?_
                      try simp only [Act.put, List.setIfInBounds_toArray, List.set_cons_zero, List.set_cons_succ, List.getElem_toArray, List.getElem_cons_succ, List.getElem_cons_zero]
                      refine wpAnyH_take (i := 20) (v := ?_) rfl (by kernel_rfl) (by kernel_rfl) (by kernel_rfl) (fun _ _ _ h => h) (Or.inl ⟨by rfl, ?_⟩) (by assumption) ?_
                      rotate_left
                      · intro X9 hSw; (try dsimp only at hSw); obtain ⟨hs1, hs2⟩ := hSw; (try simp only [List.getElem_toArray, List.getElem_cons_succ, List.getElem_cons_zero]); first | (go_simp; done) | (go_simp; with_reducible rfl)
                      try simp only [Act.put, List.setIfInBounds_toArray, List.set_cons_zero, List.set_cons_succ, List.getElem_toArray, List.getElem_cons_succ, List.getElem_cons_zero]
                      refine wpAnyH_take (i := 21) (v := ?_) rfl (by kernel_rfl) (by kernel_rfl) (by kernel_rfl) (fun _ _ _ h => h) (Or.inl ⟨by rfl, ?_⟩) (by assumption) ?_
                      rotate_left
                      · intro X9 hSw; (try dsimp only at hSw); obtain ⟨hs1, hs2⟩ := hSw; (try simp only [List.getElem_toArray, List.getElem_cons_succ, List.getElem_cons_zero]); first | (go_simp; done) | (go_simp; with_reducible rfl)
                      try simp only [Act.put, List.setIfInBounds_toArray, List.set_cons_zero, List.set_cons_succ, List.getElem_toArray, List.getElem_cons_succ, List.getElem_cons_zero]
                      refine wpAnyH_take (i := 22) (v := undef) rfl (by kernel_rfl) (by kernel_rfl) (by kernel_rfl) (fun _ _ _ h => h) (Or.inr ⟨by rfl, rfl⟩) (by assumption) ?_
                      try simp only [Act.put, List.setIfInBounds_toArray, List.set_cons_zero, List.set_cons_succ, List.getElem_toArray, List.getElem_cons_succ, List.getElem_cons_zero]
                      refine wpAnyH_take (i := 23) (v := undef) rfl (by kernel_rfl) (by kernel_rfl) (by kernel_rfl) (fun _ _ _ h => h) (Or.inr ⟨by rfl, rfl⟩) (by assumption) ?_
                      try simp only [Act.put, List.setIfInBounds_toArray, List.set_cons_zero, List.set_cons_succ, List.getElem_toArray, List.getElem_cons_succ, List.getElem_cons_zero]
                      refine wpAnyH_take (i := 24) (v := undef) rfl (by kernel_rfl) (by kernel_rfl) (by kernel_rfl) (fun _ _ _ h => h) (Or.inr ⟨by rfl, rfl⟩) (by assumption) ?_
                      try simp only [Act.put, List.setIfInBounds_toArray, List.set_cons_zero, List.set_cons_succ, List.getElem_toArray, List.getElem_cons_succ, List.getElem_cons_zero]
                      refine wpAnyH_take (i := 25) (v := undef) rfl (by kernel_rfl) (by kernel_rfl) (by kernel_rfl) (fun _ _ _ h => h) (Or.inr ⟨by rfl, rfl⟩) (by assumption) ?_
                      try simp only [Act.put, List.setIfInBounds_toArray, List.set_cons_zero, List.set_cons_succ, List.getElem_toArray, List.getElem_cons_succ, List.getElem_cons_zero]
                      refine wpAnyH_take (i := 26) (v := undef) rfl (by kernel_rfl) (by kernel_rfl) (by kernel_rfl) (fun _ _ _ h => h) (Or.inr ⟨by rfl, rfl⟩) (by assumption) ?_
                      try simp only [Act.put, List.setIfInBounds_toArray, List.set_cons_zero, List.set_cons_succ, List.getElem_toArray, List.getElem_cons_succ, List.getElem_cons_zero]
                      refine wpAnyH_take (i := 27) (v := undef) rfl (by kernel_rfl) (by kernel_rfl) (by kernel_rfl) (fun _ _ _ h => h) (Or.inr ⟨by rfl, rfl⟩) (by assumption) ?_
                      try simp only [Act.put, List.setIfInBounds_toArray, List.set_cons_zero, List.set_cons_succ, List.getElem_toArray, List.getElem_cons_succ, List.getElem_cons_zero]
                      refine wpAnyH_take (i := 28) (v := undef) rfl (by kernel_rfl) (by kernel_rfl) (by kernel_rfl) (fun _ _ _ h => h) (Or.inr ⟨by rfl, rfl⟩) (by assumption) ?_
                      try simp only [Act.put, List.setIfInBounds_toArray, List.set_cons_zero, List.set_cons_succ, List.getElem_toArray, List.getElem_cons_succ, List.getElem_cons_zero]
                      refine wpAnyH_take (i := 29) (v := undef) rfl (by kernel_rfl) (by kernel_rfl) (by kernel_rfl) (fun _ _ _ h => h) (Or.inr ⟨by rfl, rfl⟩) (by assumption) ?_
                      try simp only [Act.put, List.setIfInBounds_toArray, List.set_cons_zero, List.set_cons_succ, List.getElem_toArray, List.getElem_cons_succ, List.getElem_cons_zero]
                      refine wpAnyH_take (i := 30) (v := undef) rfl (by kernel_rfl) (by kernel_rfl) (by kernel_rfl) (fun _ _ _ h => h) (Or.inr ⟨by rfl, rfl⟩) (by assumption) ?_
                      try simp only [Act.put, List.setIfInBounds_toArray, List.set_cons_zero, List.set_cons_succ, List.getElem_toArray, List.getElem_cons_succ, List.getElem_cons_zero]
                      refine wpAnyH_take (i := 31) (v := undef) rfl (by kernel_rfl) (by kernel_rfl) (by kernel_rfl) (fun _ _ _ h => h) (Or.inr ⟨by rfl, rfl⟩) (by assumption) ?_
                      try simp only [Act.put, List.setIfInBounds_toArray, List.set_cons_zero, List.set_cons_succ, List.getElem_toArray, List.getElem_cons_succ, List.getElem_cons_zero]
                      refine wpAnyH_take (i := 32) (v := undef) rfl (by kernel_rfl) (by kernel_rfl) (by kernel_rfl) (fun _ _ _ h => h) (Or.inr ⟨by rfl, rfl⟩) (by assumption) ?_
                      try simp only [Act.put, List.setIfInBounds_toArray, List.set_cons_zero, List.set_cons_succ, List.getElem_toArray, List.getElem_cons_succ, List.getElem_cons_zero]
                      refine wpAnyH_take (i := 33) (v := undef) rfl (by kernel_rfl) (by kernel_rfl) (by kernel_rfl) (fun _ _ _ h => h) (Or.inr ⟨by rfl, rfl⟩) (by assumption) ?_
                      try simp only [Act.put, List.setIfInBounds_toArray, List.set_cons_zero, List.set_cons_succ, List.getElem_toArray, List.getElem_cons_succ, List.getElem_cons_zero]
                      refine wpAnyH_take (i := 34) (v := undef) rfl (by kernel_rfl) (by kernel_rfl) (by kernel_rfl) (fun _ _ _ h => h) (Or.inr ⟨by rfl, rfl⟩) (by assumption) ?_
                      try simp only [Act.put, List.setIfInBounds_toArray, List.set_cons_zero, List.set_cons_succ, List.getElem_toArray, List.getElem_cons_succ, List.getElem_cons_zero]
                      refine wpAnyH_take (i := 35) (v := undef) rfl (by kernel_rfl) (by kernel_rfl) (by kernel_rfl) (fun _ _ _ h => h) (Or.inr ⟨by rfl, rfl⟩) (by assumption) ?_
                      try simp only [Act.put, List.setIfInBounds_toArray, List.set_cons_zero, List.set_cons_succ, List.getElem_toArray, List.getElem_cons_succ, List.getElem_cons_zero]
                      refine wpAnyH_take (i := 36) (v := undef) rfl (by kernel_rfl) (by kernel_rfl) (by kernel_rfl) (fun _ _ _ h => h) (Or.inr ⟨by rfl, rfl⟩) (by assumption) ?_
                      try simp only [Act.put, List.setIfInBounds_toArray, List.set_cons_zero, List.set_cons_succ, List.getElem_toArray, List.getElem_cons_succ, List.getElem_cons_zero]
                      refine wpAnyH_take (i := 37) (v := undef) rfl (by kernel_rfl) (by kernel_rfl) (by kernel_rfl) (fun _ _ _ h => h) (Or.inr ⟨by rfl, rfl⟩) (by assumption) ?_
                      try simp only [Act.put, List.setIfInBounds_toArray, List.set_cons_zero, List.set_cons_succ, List.getElem_toArray, List.getElem_cons_succ, List.getElem_cons_zero]
                      refine wpAnyH_take (i := 38) (v := ?_) rfl (by kernel_rfl) (by kernel_rfl) (by kernel_rfl) (fun _ _ _ h => h) (Or.inl ⟨by rfl, ?_⟩) (by assumption) ?_
                      rotate_left
                      · intro X9 hSw; (try dsimp only at hSw); obtain ⟨hs1, hs2⟩ := hSw; (try simp only [List.getElem_toArray, List.getElem_cons_succ, List.getElem_cons_zero]); first | (go_simp; done) | (go_simp; with_reducible rfl)
                      try simp only [Act.put, List.setIfInBounds_toArray, List.set_cons_zero, List.set_cons_succ, List.getElem_toArray, List.getElem_cons_succ, List.getElem_cons_zero]
                      refine wpAnyH_take (i := 39) (v := ?_) rfl (by kernel_rfl) (by kernel_rfl) (by kernel_rfl) (fun _ _ _ h => h) (Or.inl ⟨by rfl, ?_⟩) (by assumption) ?_
                      rotate_left
                      · intro X9 hSw; (try dsimp only at hSw); obtain ⟨hs1, hs2⟩ := hSw; (try simp only [List.getElem_toArray, List.getElem_cons_succ, List.getElem_cons_zero]); first | (go_simp; done) | (go_simp; with_reducible rfl)
                      try simp only [Act.put, List.setIfInBounds_toArray, List.set_cons_zero, List.set_cons_succ, List.getElem_toArray, List.getElem_cons_succ, List.getElem_cons_zero]
                      refine wpAnyH_done (by kernel_rfl) ?_ _
                      have HB9 := Lib.hid hbw
                      clear hbw hcw hd0 hs0
                      go_wp2
                      go_roundw
                      case rel => exact ⟨j + 1, hjq, by go_num, HNL.out.bnew HB9.out, (HB9.out.block b0 hb0r).trans HX.out, HBL.out.trans (HB9.out.mono HBL.out.size)⟩
                      case measure => simp [intOf]; omega
                · cases zero
                  · obtain rfl : c1 = co := HCO2.out rfl rfl
                    cases hv
                    · as_aux_lemma =>
                        go_wp2
                        refine wp_region_held_drew (S := fun W => W.cell? ⟨b0, 1, none⟩ = some (.slice (some ad) q tc) ∧ W.cell? (ad.add j) = some (.string s) ∧ W.cell? ⟨bo, 0, none⟩ = some (.pointer (some ⟨c1, 0, none⟩))) (by kernel_rfl) (show (wr.drew).cell? _ = _ ∧ (wr.drew).cell? _ = _ ∧ (wr.drew).cell? _ = _ from hs0) (fun hHeld => ?_)
                        refine wpAnyH_take (i := 0) (v := ?_) rfl (by kernel_rfl) (by kernel_rfl) (by kernel_rfl) (fun _ _ _ h => h) (Or.inl ⟨by rfl, ?_⟩) (by assumption) ?_
                        rotate_left
                        · intro X9 hSw; (try dsimp only at hSw); obtain ⟨hs1, hs2⟩ := hSw; (try simp only [List.getElem_toArray, List.getElem_cons_zero]); first | (go_simp; done) | (go_simp; with_reducible rfl)
                        try simp only [Act.put, List.setIfInBounds_toArray, List.set_cons_zero, List.set_cons_succ, List.getElem_toArray, List.getElem_cons_zero]
                        refine wpAnyH_take (i := 1) (v := ?_) rfl (by kernel_rfl) (by kernel_rfl) (by kernel_rfl) (fun _ _ _ h => h) (Or.inl ⟨by rfl, ?_⟩) (by assumption) ?_
                        rotate_left
                        · intro X9 hSw; (try dsimp only at hSw); obtain ⟨hs1, hs2⟩ := hSw; (try simp only [List.getElem_toArray, List.getElem_cons_succ, List.getElem_cons_zero]); first | (go_simp; done) | (go_simp; with_reducible rfl)
                        try simp only [Act.put, List.setIfInBounds_toArray, List.set_cons_zero, List.set_cons_succ, List.getElem_toArray, List.getElem_cons_succ, List.getElem_cons_zero]
                        refine wpAnyH_take (i := 2) (v := ?_) rfl (by kernel_rfl) (by kernel_rfl) (by kernel_rfl) (fun _ _ _ h => h) (Or.inl ⟨by rfl, ?_⟩) (by assumption) ?_
                        rotate_left
                        · intro X9 hSw; (try dsimp only at hSw); obtain ⟨hs1, hs2⟩ := hSw; (try simp only [List.getElem_toArray, List.getElem_cons_succ, List.getElem_cons_zero]); first | (go_simp; done) | (go_simp; with_reducible rfl)
                        try simp only [Act.put, List.setIfInBounds_toArray, List.set_cons_zero, List.set_cons_succ, List.getElem_toArray, List.getElem_cons_succ, List.getElem_cons_zero]
                        refine wpAnyH_take (i := 3) (v := ?_) rfl (by kernel_rfl) (by kernel_rfl) (by kernel_rfl) (fun _ _ _ h => h) (Or.inl ⟨by rfl, ?_⟩) (by assumption) ?_
                        rotate_left
                        · intro X9 hSw; (try dsimp only at hSw); obtain ⟨hs1, hs2⟩ := hSw; (try simp only [List.getElem_toArray, List.getElem_cons_succ, List.getElem_cons_zero]); first | (go_simp; done) | (go_simp; with_reducible rfl)
                        try simp only [Act.put, List.setIfInBounds_toArray, List.set_cons_zero, List.set_cons_succ, List.getElem_toArray, List.getElem_cons_succ, List.getElem_cons_zero]
                        refine wpAnyH_take (i := 4) (v := ?_) rfl (by kernel_rfl) (by kernel_rfl) (by kernel_rfl) (fun _ _ _ h => h) (Or.inl ⟨by rfl, ?_⟩) (by assumption) ?_
                        rotate_left
                        · intro X9 hSw; (try dsimp only at hSw); obtain ⟨hs1, hs2⟩ := hSw; (try simp only [List.getElem_toArray, List.getElem_cons_succ, List.getElem_cons_zero]); first | (go_simp; done) | (go_simp; with_reducible rfl)
                        try simp only [Act.put, List.setIfInBounds_toArray, List.set_cons_zero, List.set_cons_succ, List.getElem_toArray, List.getElem_cons_succ, List.getElem_cons_zero]
                        refine wpAnyH_take (i := 5) (v := ?_) rfl (by kernel_rfl) (by kernel_rfl) (by kernel_rfl) (fun _ _ _ h => h) (Or.inl ⟨by rfl, ?_⟩) (by assumption) ?_
                        rotate_left
                        · intro X9 hSw; (try dsimp only at hSw); obtain ⟨hs1, hs2⟩ := hSw; (try simp only [List.getElem_toArray, List.getElem_cons_succ, List.getElem_cons_zero]); first | (go_simp; done) | (go_simp; with_reducible rfl)
                        try simp only [Act.put, List.setIfInBounds_toArray, List.set_cons_zero, List.set_cons_succ, List.getElem_toArray, List.getElem_cons_succ, List.getElem_cons_zero]
                        refine wpAnyH_take (i := 7) (v := ?_) rfl (by kernel_rfl) (by kernel_rfl) (by kernel_rfl) (fun _ _ _ h => h) (Or.inl ⟨by rfl, ?_⟩) (by assumption) ?_
                        rotate_left
                        · intro X9 hSw; (try dsimp only at hSw); obtain ⟨hs1, hs2⟩ := hSw; (try simp only [List.getElem_toArray, List.getElem_cons_succ, List.getElem_cons_zero]); first | (go_simp; done) | (go_simp; with_reducible rfl)
                        try simp only [Act.put, List.setIfInBounds_toArray, List.set_cons_zero, List.set_cons_succ, List.getElem_toArray, List.getElem_cons_succ, List.getElem_cons_zero]
                        refine wpAnyH_take (i := 8) (v := ?_) rfl (by kernel_rfl) (by kernel_rfl) (by kernel_rfl) (fun _ _ _ h => h) (Or.inl ⟨by rfl, ?_⟩) (by assumption) ?_
                        rotate_left
                        · intro X9 hSw; (try dsimp only at hSw); obtain ⟨hs1, hs2⟩ := hSw; (try simp only [List.getElem_toArray, List.getElem_cons_succ, List.getElem_cons_zero]); first | (go_simp; done) | (go_simp; with_reducible rfl)
                        try simp only [Act.put, List.setIfInBounds_toArray, List.set_cons_zero, List.set_cons_succ, List.getElem_toArray, List.getElem_cons_succ, List.getElem_cons_zero]
                        refine wpAnyH_take (i := 9) (v := ?_) rfl (by kernel_rfl) (by kernel_rfl) (by kernel_rfl) (fun _ _ _ h => h) (Or.inl ⟨by rfl, ?_⟩) (by assumption) ?_
                        rotate_left
                        · intro X9 hSw; (try dsimp only at hSw); obtain ⟨hs1, hs2⟩ := hSw; (try simp only [List.getElem_toArray, List.getElem_cons_succ, List.getElem_cons_zero]); first | (go_simp; done) | (go_simp; with_reducible rfl)
                        try simp only [Act.put, List.setIfInBounds_toArray, List.set_cons_zero, List.set_cons_succ, List.getElem_toArray, List.getElem_cons_succ, List.getElem_cons_zero]
                        refine wpAnyH_take (i := 10) (v := ?_) rfl (by kernel_rfl) (by kernel_rfl) (by kernel_rfl) (fun _ _ _ h => h) (Or.inl ⟨by rfl, ?_⟩) (by assumption) ?_
                        rotate_left
                        · intro X9 hSw; (try dsimp only at hSw); obtain ⟨hs1, hs2⟩ := hSw; (try simp only [List.getElem_toArray, List.getElem_cons_succ, List.getElem_cons_zero]); first | (go_simp; done) | (go_simp; with_reducible rfl)
                        try simp only [Act.put, List.setIfInBounds_toArray, List.set_cons_zero, List.set_cons_succ, List.getElem_toArray, List.getElem_cons_succ, List.getElem_cons_zero]
                        refine wpAnyH_take (i := 11) (v := ?_) rfl (by kernel_rfl) (by kernel_rfl) (by kernel_rfl) (fun _ _ _ h => h) (Or.inl ⟨by rfl, ?_⟩) (by assumption) ?_
                        rotate_left
                        · intro X9 hSw; (try dsimp only at hSw); obtain ⟨hs1, hs2⟩ := hSw; (try simp only [List.getElem_toArray, List.getElem_cons_succ, List.getElem_cons_zero]); first | (go_simp; done) | (go_simp; with_reducible rfl)
                        try simp only [Act.put, List.setIfInBounds_toArray, List.set_cons_zero, List.set_cons_succ, List.getElem_toArray, List.getElem_cons_succ, List.getElem_cons_zero]
                        refine wpAnyH_take (i := 12) (v := ?_) rfl (by kernel_rfl) (by kernel_rfl) (by kernel_rfl) (fun _ _ _ h => h) (Or.inl ⟨by rfl, ?_⟩) (by assumption) ?_
                        rotate_left
                        · intro X9 hSw; (try dsimp only at hSw); obtain ⟨hs1, hs2⟩ := hSw; (try simp only [List.getElem_toArray, List.getElem_cons_succ, List.getElem_cons_zero]); first | (go_simp; done) | (go_simp; with_reducible rfl)
                        try simp only [Act.put, List.setIfInBounds_toArray, List.set_cons_zero, List.set_cons_succ, List.getElem_toArray, List.getElem_cons_succ, List.getElem_cons_zero]
                        refine wpAnyH_ready (rs := [6]) (by kernel_rfl) (by simp) (AllReadyH.cons rfl (fun K hK => ?_) (AllReadyH.nil))
                        try simp only [List.getElem_toArray, List.getElem_cons_succ, List.getElem_cons_zero]
                        go_simp
                        refine (CH.out _ hd0).mono ?_
                        rintro e w2 ⟨rfl, hbw, hcw⟩
                        refine hK.out _ _ (hcw) (fun hHeld => ?_)
                        clear hK K
                        try simp only [Act.put, List.setIfInBounds_toArray, List.set_cons_zero, List.set_cons_succ, List.getElem_toArray, List.getElem_cons_succ, List.getElem_cons_zero]
                        refine wpAnyH_ready (rs := [13]) (by kernel_rfl) (by simp) (AllReadyH.cons rfl (fun K hK => ?_) (AllReadyH.nil))
                        try simp only [List.getElem_toArray, List.getElem_cons_succ, List.getElem_cons_zero]
                        go_simp
                        refine (CH2.out _ hbw).mono ?_
                        rintro e w3 ⟨rfl, rfl⟩
                        refine hK.out _ _ (hcw) (fun hHeld => ?_)
                        clear hK K
                        try simp only [Act.put, List.setIfInBounds_toArray, List.set_cons_zero, List.set_cons_succ, List.getElem_toArray, List.getElem_cons_succ, List.getElem_cons_zero]
                        refine wpAnyH_take (i := 14) (v := ?_) rfl (by kernel_rfl) (by kernel_rfl) (by kernel_rfl) (fun _ _ _ h => h) (Or.inl ⟨by rfl, ?_⟩) (by assumption) ?_
                        rotate_left
                        · intro X9 hSw; (try dsimp only at hSw); obtain ⟨hs1, hs2⟩ := hSw; (try simp only [List.getElem_toArray, List.getElem_cons_succ, List.getElem_cons_zero]); first | (go_simp; done) | (go_simp; with_reducible rfl)
                        try simp only [Act.put, List.setIfInBounds_toArray, List.set_cons_zero, List.set_cons_succ, List.getElem_toArray, List.getElem_cons_succ, List.getElem_cons_zero]
                        refine wpAnyH_take (i := 15) (v := ?_) rfl (by kernel_rfl) (by kernel_rfl) (by kernel_rfl) (fun _ _ _ h => h) (Or.inl ⟨by rfl, ?_⟩) (by assumption) ?_
                        rotate_left
                        · intro X9 hSw; (try dsimp only at hSw); obtain ⟨hs1, hs2⟩ := hSw; (try simp only [List.getElem_toArray, List.getElem_cons_succ, List.getElem_cons_zero]); first | (go_simp; done) | (go_simp; with_reducible rfl)
                        try simp only [Act.put, List.setIfInBounds_toArray, List.set_cons_zero, List.set_cons_succ, List.getElem_toArray, List.getElem_cons_succ, List.getElem_cons_zero]
                        refine wpAnyH_take (i := 16) (v := ?_) rfl (by kernel_rfl) (by kernel_rfl) (by kernel_rfl) (fun _ _ _ h => h) (Or.inl ⟨by rfl, ?_⟩) (by assumption) ?_
                        rotate_left
                        · intro X9 hSw; (try dsimp only at hSw); obtain ⟨hs1, hs2⟩ := hSw; (try simp only [List.getElem_toArray, List.getElem_cons_succ, List.getElem_cons_zero]); first | (go_simp; done) | (go_simp; with_reducible rfl)
                        try simp only [Act.put, List.setIfInBounds_toArray, List.set_cons_zero, List.set_cons_succ, List.getElem_toArray, List.getElem_cons_succ, List.getElem_cons_zero]
                        refine wpAnyH_take (i := 17) (v := ?_) rfl (by kernel_rfl) (by kernel_rfl) (by kernel_rfl) (fun _ _ _ h => h) (Or.inl ⟨by rfl, ?_⟩) (by assumption) ?_
                        rotate_left
                        · intro X9 hSw; (try dsimp only at hSw); obtain ⟨hs1, hs2⟩ := hSw; (try simp only [List.getElem_toArray, List.getElem_cons_succ, List.getElem_cons_zero]); first | (go_simp; done) | (go_simp; with_reducible rfl)
                        try simp only [Act.put, List.setIfInBounds_toArray, List.set_cons_zero, List.set_cons_succ, List.getElem_toArray, List.getElem_cons_succ, List.getElem_cons_zero]
                        refine wpAnyH_take (i := 18) (v := ?_) rfl (by kernel_rfl) (by kernel_rfl) (by kernel_rfl) (fun _ _ _ h => h) (Or.inl ⟨by rfl, ?_⟩) (by assumption) ?_
                        rotate_left
                        · intro X9 hSw; (try dsimp only at hSw); obtain ⟨hs1, hs2⟩ := hSw; (try simp only [List.getElem_toArray, List.getElem_cons_succ, List.getElem_cons_zero]); first | (go_simp; done) | (go_simp; with_reducible rfl)
                        try simp only [Act.put, List.setIfInBounds_toArray, List.set_cons_zero, List.set_cons_succ, List.getElem_toArray, List.getElem_cons_succ, List.getElem_cons_zero]
                        refine wpAnyH_take (i := 19) (v := ?_) rfl (by kernel_rfl) (by kernel_rfl) (by kernel_rfl) (fun _ _ _ h => h) (Or.inl ⟨by rfl, ?_⟩) (by assumption) ?_
                        rotate_left
                        · intro X9 hSw; (try dsimp only at hSw); obtain ⟨hs1, hs2⟩ := hSw; (try simp only [List.getElem_toArray, List.getElem_cons_succ, List.getElem_cons_zero]); first | (go_simp; done) | (go_simp; with_reducible rfl)
                        try simp only [Act.put, List.setIfInBounds_toArray, List.set_cons_zero, List.set_cons_succ, List.getElem_toArray, List.getElem_cons_succ, List.getElem_cons_zero]
                        refine wpAnyH_take (i := 20) (v := ?_) rfl (by kernel_rfl) (by kernel_rfl) (by kernel_rfl) (fun _ _ _ h => h) (Or.inl ⟨by rfl, ?_⟩) (by assumption) ?_
                        rotate_left
                        · intro X9 hSw; (try dsimp only at hSw); obtain ⟨hs1, hs2⟩ := hSw; (try simp only [List.getElem_toArray, List.getElem_cons_succ, List.getElem_cons_zero]); first | (go_simp; done) | (go_simp; with_reducible rfl)
                        try simp only [Act.put, List.setIfInBounds_toArray, List.set_cons_zero, List.set_cons_succ, List.getElem_toArray, List.getElem_cons_succ, List.getElem_cons_zero]
                        refine wpAnyH_take (i := 21) (v := ?_) rfl (by kernel_rfl) (by kernel_rfl) (by kernel_rfl) (fun _ _ _ h => h) (Or.inl ⟨by rfl, ?_⟩) (by assumption) ?_
                        rotate_left
                        · intro X9 hSw; (try dsimp only at hSw); obtain ⟨hs1, hs2⟩ := hSw; (try simp only [List.getElem_toArray, List.getElem_cons_succ, List.getElem_cons_zero]); first | (go_simp; done) | (go_simp; with_reducible rfl)
                        try simp only [Act.put, List.setIfInBounds_toArray, List.set_cons_zero, List.set_cons_succ, List.getElem_toArray, List.getElem_cons_succ, List.getElem_cons_zero]
                        refine wpAnyH_take (i := 22) (v := ?_) rfl (by kernel_rfl) (by kernel_rfl) (by kernel_rfl) (fun _ _ _ h => h) (Or.inl ⟨by rfl, ?_⟩) (by assumption) ?_
                        rotate_left
                        · intro X9 hSw; (try dsimp only at hSw); obtain ⟨hs1, hs2⟩ := hSw; (try simp only [List.getElem_toArray, List.getElem_cons_succ, List.getElem_cons_zero]); first | (go_simp; done) | (go_simp; with_reducible rfl)
                        try simp only [Act.put, List.setIfInBounds_toArray, List.set_cons_zero, List.set_cons_succ, List.getElem_toArray, List.getElem_cons_succ, List.getElem_cons_zero]
                        refine wpAnyH_take (i := 23) (v := ?_) rfl (by kernel_rfl) (by kernel_rfl) (by kernel_rfl) (fun _ _ _ h => h) (Or.inl ⟨by rfl, ?_⟩) (by assumption) ?_
                        rotate_left
                        · intro X9 hSw; (try dsimp only at hSw); obtain ⟨hs1, hs2⟩ := hSw; (try simp only [List.getElem_toArray, List.getElem_cons_succ, List.getElem_cons_zero]); first | (go_simp; done) | (go_simp; with_reducible rfl)
                        try simp only [Act.put, List.setIfInBounds_toArray, List.set_cons_zero, List.set_cons_succ, List.getElem_toArray, List.getElem_cons_succ, List.getElem_cons_zero]
                        refine wpAnyH_take (i := 24) (v := ?_) rfl (by kernel_rfl) (by kernel_rfl) (by kernel_rfl) (fun _ _ _ h => h) (Or.inl ⟨by rfl, ?_⟩) (by assumption) ?_
                        rotate_left
                        · intro X9 hSw; (try dsimp only at hSw); obtain ⟨hs1, hs2⟩ := hSw; (try simp only [List.getElem_toArray, List.getElem_cons_succ, List.getElem_cons_zero]); first | (go_simp; done) | (go_simp; with_reducible rfl)
                        try simp only [Act.put, List.setIfInBounds_toArray, List.set_cons_zero, List.set_cons_succ, List.getElem_toArray, List.getElem_cons_succ, List.getElem_cons_zero]
                        refine wpAnyH_take (i := 25) (v := ?_) rfl (by kernel_rfl) (by kernel_rfl) (by kernel_rfl) (fun _ _ _ h => h) (Or.inl ⟨by rfl, ?_⟩) (by assumption) ?_
                        rotate_left
                        · intro X9 hSw; (try dsimp only at hSw); obtain ⟨hs1, hs2⟩ := hSw; (try simp only [List.getElem_toArray, List.getElem_cons_succ, List.getElem_cons_zero]); first | (go_simp; done) | (go_simp; with_reducible rfl)
                        try simp only [Act.put, List.setIfInBounds_toArray, List.set_cons_zero, List.set_cons_succ, List.getElem_toArray, List.getElem_cons_succ, List.getElem_cons_zero]
                        refine wpAnyH_take (i := 26) (v := ?_) rfl (by kernel_rfl) (by kernel_rfl) (by kernel_rfl) (fun _ _ _ h => h) (Or.inl ⟨by rfl, ?_⟩) (by assumption) ?_
                        rotate_left
                        · intro X9 hSw; (try dsimp only at hSw); obtain ⟨hs1, hs2⟩ := hSw; (try simp only [List.getElem_toArray, List.getElem_cons_succ, List.getElem_cons_zero]); first | (go_simp; done) | (go_simp; with_reducible rfl)
                        try simp only [Act.put, List.setIfInBounds_toArray, List.set_cons_zero, List.set_cons_succ, List.getElem_toArray, List.getElem_cons_succ, List.getElem_cons_zero]
                        refine wpAnyH_take (i := 27) (v := ?_) rfl (by kernel_rfl) (by kernel_rfl) (by kernel_rfl) (fun _ _ _ h => h) (Or.inl ⟨by rfl, ?_⟩) (by assumption) ?_
                        rotate_left
                        · intro X9 hSw; (try dsimp only at hSw); obtain ⟨hs1, hs2⟩ := hSw; (try simp only [List.getElem_toArray, List.getElem_cons_succ, List.getElem_cons_zero]); first | (go_simp; done) | (go_simp; with_reducible rfl)
                        try simp only [Act.put, List.setIfInBounds_toArray, List.set_cons_zero, List.set_cons_succ, List.getElem_toArray, List.getElem_cons_succ, List.getElem_cons_zero]
                        refine wpAnyH_take (i := 28) (v := ?_) rfl (by kernel_rfl) (by kernel_rfl) (by kernel_rfl) (fun _ _ _ h => h) (Or.inl ⟨by rfl, ?_⟩) (by assumption) ?_
                        rotate_left
                        · intro X9 hSw; (try dsimp only at hSw); obtain ⟨hs1, hs2⟩ := hSw; (try simp only [List.getElem_toArray, List.getElem_cons_succ, List.getElem_cons_zero]); first | (go_simp; done) | (go_simp; with_reducible rfl)
                        try simp only [Act.put, List.setIfInBounds_toArray, List.set_cons_zero, List.set_cons_succ, List.getElem_toArray, List.getElem_cons_succ, List.getElem_cons_zero]
                        refine wpAnyH_take (i := 30) (v := ?_) rfl (by kernel_rfl) (by kernel_rfl) (by kernel_rfl) (fun _ _ _ h => h) (Or.inl ⟨by rfl, ?_⟩) (by assumption) ?_
                        rotate_left
                        · intro X9 hSw; (try dsimp only at hSw); obtain ⟨hs1, hs2⟩ := hSw; (try simp only [List.getElem_toArray, List.getElem_cons_succ, List.getElem_cons_zero]); first | (go_simp; done) | (go_simp; with_reducible rfl)
                        try simp only [Act.put, List.setIfInBounds_toArray, List.set_cons_zero, List.set_cons_succ, List.getElem_toArray, List.getElem_cons_succ, List.getElem_cons_zero]
                        refine wpAnyH_take (i := 31) (v := ?_) rfl (by kernel_rfl) (by kernel_rfl) (by kernel_rfl) (fun _ _ _ h => h) (Or.inl ⟨by rfl, ?_⟩) (by assumption) ?_
                        rotate_left
                        · intro X9 hSw; (try dsimp only at hSw); obtain ⟨hs1, hs2⟩ := hSw; (try simp only [List.getElem_toArray, List.getElem_cons_succ, List.getElem_cons_zero]); first | (go_simp; done) | (go_simp; with_reducible rfl)
                        try simp only [Act.put, List.setIfInBounds_toArray, List.set_cons_zero, List.set_cons_succ, List.getElem_toArray, List.getElem_cons_succ, List.getElem_cons_zero]
                        refine wpAnyH_take (i := 32) (v := ?_) rfl (by kernel_rfl) (by kernel_rfl) (by kernel_rfl) (fun _ _ _ h => h) (Or.inl ⟨by rfl, ?_⟩) (by assumption) ?_
                        rotate_left
                        · intro X9 hSw; (try dsimp only at hSw); obtain ⟨hs1, hs2⟩ := hSw; (try simp only [List.getElem_toArray, List.getElem_cons_succ, List.getElem_cons_zero]); first | (go_simp; done) | (go_simp; with_reducible rfl)
                        try simp only [Act.put, List.setIfInBounds_toArray, List.set_cons_zero, List.set_cons_succ, List.getElem_toArray, List.getElem_cons_succ, List.getElem_cons_zero]
                        refine wpAnyH_take (i := 33) (v := ?_) rfl (by kernel_rfl) (by kernel_rfl) (by kernel_rfl) (fun _ _ _ h => h) (Or.inl ⟨by rfl, ?_⟩) (by assumption) ?_
                        rotate_left
                        · intro X9 hSw; (try dsimp only at hSw); obtain ⟨hs1, hs2⟩ := hSw; (try simp only [List.getElem_toArray, List.getElem_cons_succ, List.getElem_cons_zero]); first | (go_simp; done) | (go_simp; with_reducible rfl)
                        try simp only [Act.put, List.setIfInBounds_toArray, List.set_cons_zero, List.set_cons_succ, List.getElem_toArray, List.getElem_cons_succ, List.getElem_cons_zero]
                        refine wpAnyH_take (i := 34) (v := ?_) rfl (by kernel_rfl) (by kernel_rfl) (by kernel_rfl) (fun _ _ _ h => h) (Or.inl ⟨by rfl, ?_⟩) (by assumption) ?_
                        rotate_left
                        · intro X9 hSw; (try dsimp only at hSw); obtain ⟨hs1, hs2⟩ := hSw; (try simp only [List.getElem_toArray, List.getElem_cons_succ, List.getElem_cons_zero]); first | (go_simp; done) | (go_simp; with_reducible rfl)
                        try simp only [Act.put, List.setIfInBounds_toArray, List.set_cons_zero, List.set_cons_succ, List.getElem_toArray, List.getElem_cons_succ, List.getElem_cons_zero]
                        refine wpAnyH_take (i := 35) (v := ?_) rfl (by kernel_rfl) (by kernel_rfl) (by kernel_rfl) (fun _ _ _ h => h) (Or.inl ⟨by rfl, ?_⟩) (by assumption) ?_
                        rotate_left
                        · intro X9 hSw; (try dsimp only at hSw); obtain ⟨hs1, hs2⟩ := hSw; (try simp only [List.getElem_toArray, List.getElem_cons_succ, List.getElem_cons_zero]); first | (go_simp; done) | (go_simp; with_reducible rfl)
                        try simp only [Act.put, List.setIfInBounds_toArray, List.set_cons_zero, List.set_cons_succ, List.getElem_toArray, List.getElem_cons_succ, List.getElem_cons_zero]
                        refine wpAnyH_ready (rs := [29]) (by kernel_rfl) (by simp) (AllReadyH.cons rfl (fun K hK => ?_) (AllReadyH.nil))
                        try simp only [List.getElem_toArray, List.getElem_cons_succ, List.getElem_cons_zero]
                        go_simp
                        refine (CH.out _ hbw).mono ?_
                        rintro e w4 ⟨rfl, hbw4, hcw4⟩
                        refine hK.out _ _ (hcw4) (fun hHeld => ?_)
                        clear hK K
                        try simp only [Act.put, List.setIfInBounds_toArray, List.set_cons_zero, List.set_cons_succ, List.getElem_toArray, List.getElem_cons_succ, List.getElem_cons_zero]
                        refine wpAnyH_ready (rs := [36]) (by kernel_rfl) (by simp) (AllReadyH.cons rfl (fun K hK => ?_) (AllReadyH.nil))
                        try simp only [List.getElem_toArray, List.getElem_cons_succ, List.getElem_cons_zero]
                        go_simp
                        refine (CH.out _ hbw4).mono ?_
                        rintro e w5 ⟨rfl, hbw5, hcw5⟩
                        refine hK.out _ _ (hcw5) (fun hHeld => ?_)
                        clear hK K
                        try simp only [Act.put, List.setIfInBounds_toArray, List.set_cons_zero, List.set_cons_succ, List.getElem_toArray, List.getElem_cons_succ, List.getElem_cons_zero]
                        refine wpAnyH_take (i := 37) (v := ?_) rfl (by kernel_rfl) (by kernel_rfl) (by kernel_rfl) (fun _ _ _ h => h) (Or.inl ⟨by rfl, ?_⟩) (by assumption) ?_
                        rotate_left
                        · intro X9 hSw; (try dsimp only at hSw); obtain ⟨hs1, hs2⟩ := hSw; (try simp only [List.getElem_toArray, List.getElem_cons_succ, List.getElem_cons_zero]); first | (go_simp; done) | (go_simp; with_reducible rfl)
                        try simp only [Act.put, List.setIfInBounds_toArray, List.set_cons_zero, List.set_cons_succ, List.getElem_toArray, List.getElem_cons_succ, List.getElem_cons_zero]
                        refine wpAnyH_take (i := 38) (v := ?_) rfl (by kernel_rfl) (by kernel_rfl) (by kernel_rfl) (fun _ _ _ h => h) (Or.inl ⟨by rfl, ?_⟩) (by assumption) ?_
                        rotate_left
                        · intro X9 hSw; (try dsimp only at hSw); obtain ⟨hs1, hs2⟩ := hSw; (try simp only [List.getElem_toArray, List.getElem_cons_succ, List.getElem_cons_zero]); first | (go_simp; done) | (go_simp; with_reducible rfl)
                        try simp only [Act.put, List.setIfInBounds_toArray, List.set_cons_zero, List.set_cons_succ, List.getElem_toArray, List.getElem_cons_succ, List.getElem_cons_zero]
                        refine wpAnyH_take (i := 39) (v := ?_) rfl (by kernel_rfl) (by kernel_rfl) (by kernel_rfl) (fun _ _ _ h => h) (Or.inl ⟨by rfl, ?_⟩) (by assumption) ?_
                        rotate_left
                        · intro X9 hSw; (try dsimp only at hSw); obtain ⟨hs1, hs2⟩ := hSw; (try simp only [List.getElem_toArray, List.getElem_cons_succ, List.getElem_cons_zero]); first | (go_simp; done) | (go_simp; with_reducible rfl)
                        try simp only [Act.put, List.setIfInBounds_toArray, List.set_cons_zero, List.set_cons_succ, List.getElem_toArray, List.getElem_cons_succ, List.getElem_cons_zero]
                        refine wpAnyH_done (by kernel_rfl) ?_ _
                        have HB9 := Lib.hid hbw5
                        clear hbw hcw hbw4 hcw4 hbw5 hcw5 hd0 hs0
                        go_wp2
                        go_roundw
                        case rel => exact ⟨j + 1, hjq, by go_num, HNL.out.bnew HB9.out, (HB9.out.block b0 hb0r).trans HX.out, HBL.out.trans (HB9.out.mono HBL.out.size)⟩
                        case measure => simp [intOf]; omega
                    · as_aux_lemma =>
                        go_wp2
                        refine wp_region_held_drew (S := fun W => W.cell? ⟨b0, 1, none⟩ = some (.slice (some ad) q tc) ∧ W.cell? (ad.add j) = some (.string s) ∧ W.cell? ⟨bo, 0, none⟩ = some (.pointer (some ⟨c1, 0, none⟩))) (by kernel_rfl) (show (wr.drew).cell? _ = _ ∧ (wr.drew).cell? _ = _ ∧ (wr.drew).cell? _ = _ from hs0) (fun hHeld => ?_)
                        refine wpAnyH_take (i := 0) (v := ?_) rfl (by kernel_rfl) (by kernel_rfl) (by kernel_rfl) (fun _ _ _ h => h) (Or.inl ⟨by rfl, ?_⟩) (by assumption) ?_
                        rotate_left
                        · intro X9 hSw; (try dsimp only at hSw); obtain ⟨hs1, hs2⟩ := hSw; (try simp only [List.getElem_toArray, List.getElem_cons_zero]); first | (go_simp; done) | (go_simp; with_reducible rfl)
                        try simp only [Act.put, List.setIfInBounds_toArray, List.set_cons_zero, List.set_cons_succ, List.getElem_toArray, List.getElem_cons_zero]
                        refine wpAnyH_take (i := 1) (v := ?_) rfl (by kernel_rfl) (by kernel_rfl) (by kernel_rfl) (fun _ _ _ h => h) (Or.inl ⟨by rfl, ?_⟩) (by assumption) ?_
                        rotate_left
                        · intro X9 hSw; (try dsimp only at hSw); obtain ⟨hs1, hs2⟩ := hSw; (try simp only [List.getElem_toArray, List.getElem_cons_succ, List.getElem_cons_zero]); first | (go_simp; done) | (go_simp; with_reducible rfl)
                        try simp only [Act.put, List.setIfInBounds_toArray, List.set_cons_zero, List.set_cons_succ, List.getElem_toArray, List.getElem_cons_succ, List.getElem_cons_zero]
                        refine wpAnyH_take (i := 2) (v := ?_) rfl (by kernel_rfl) (by kernel_rfl) (by kernel_rfl) (fun _ _ _ h => h) (Or.inl ⟨by rfl, ?_⟩) (by assumption) ?_
                        rotate_left
                        · intro X9 hSw; (try dsimp only at hSw); obtain ⟨hs1, hs2⟩ := hSw; (try simp only [List.getElem_toArray, List.getElem_cons_succ, List.getElem_cons_zero]); first | (go_simp; done) | (go_simp; with_reducible rfl)
                        try simp only [Act.put, List.setIfInBounds_toArray, List.set_cons_zero, List.set_cons_succ, List.getElem_toArray, List.getElem_cons_succ, List.getElem_cons_zero]
                        refine wpAnyH_take (i := 3) (v := ?_) rfl (by kernel_rfl) (by kernel_rfl) (by kernel_rfl) (fun _ _ _ h => h) (Or.inl ⟨by rfl, ?_⟩) (by assumption) ?_
                        rotate_left
                        · intro X9 hSw; (try dsimp only at hSw); obtain ⟨hs1, hs2⟩ := hSw; (try simp only [List.getElem_toArray, List.getElem_cons_succ, List.getElem_cons_zero]); first | (go_simp; done) | (go_simp; with_reducible rfl)
                        try simp only [Act.put, List.setIfInBounds_toArray, List.set_cons_zero, List.set_cons_succ, List.getElem_toArray, List.getElem_cons_succ, List.getElem_cons_zero]
                        refine wpAnyH_take (i := 4) (v := ?_) rfl (by kernel_rfl) (by kernel_rfl) (by kernel_rfl) (fun _ _ _ h => h) (Or.inl ⟨by rfl, ?_⟩) (by assumption) ?_
                        rotate_left
                        · intro X9 hSw; (try dsimp only at hSw); obtain ⟨hs1, hs2⟩ := hSw; (try simp only [List.getElem_toArray, List.getElem_cons_succ, List.getElem_cons_zero]); first | (go_simp; done) | (go_simp; with_reducible rfl)
                        try simp only [Act.put, List.setIfInBounds_toArray, List.set_cons_zero, List.set_cons_succ, List.getElem_toArray, List.getElem_cons_succ, List.getElem_cons_zero]
                        refine wpAnyH_take (i := 5) (v := ?_) rfl (by kernel_rfl) (by kernel_rfl) (by kernel_rfl) (fun _ _ _ h => h) (Or.inl ⟨by rfl, ?_⟩) (by assumption) ?_
                        rotate_left
                        · intro X9 hSw; (try dsimp only at hSw); obtain ⟨hs1, hs2⟩ := hSw; (try simp only [List.getElem_toArray, List.getElem_cons_succ, List.getElem_cons_zero]); first | (go_simp; done) | (go_simp; with_reducible rfl)
                        try simp only [Act.put, List.setIfInBounds_toArray, List.set_cons_zero, List.set_cons_succ, List.getElem_toArray, List.getElem_cons_succ, List.getElem_cons_zero]
                        refine wpAnyH_take (i := 7) (v := ?_) rfl (by kernel_rfl) (by kernel_rfl) (by kernel_rfl) (fun _ _ _ h => h) (Or.inl ⟨by rfl, ?_⟩) (by assumption) ?_
                        rotate_left
                        · intro X9 hSw; (try dsimp only at hSw); obtain ⟨hs1, hs2⟩ := hSw; (try simp only [List.getElem_toArray, List.getElem_cons_succ, List.getElem_cons_zero]); first | (go_simp; done) | (go_simp; with_reducible rfl)
                        try simp only [Act.put, List.setIfInBounds_toArray, List.set_cons_zero, List.set_cons_succ, List.getElem_toArray, List.getElem_cons_succ, List.getElem_cons_zero]
                        refine wpAnyH_take (i := 8) (v := ?_) rfl (by kernel_rfl) (by kernel_rfl) (by kernel_rfl) (fun _ _ _ h => h) (Or.inl ⟨by rfl, ?_⟩) (by assumption) ?_
                        rotate_left
                        · intro X9 hSw; (try dsimp only at hSw); obtain ⟨hs1, hs2⟩ := hSw; (try simp only [List.getElem_toArray, List.getElem_cons_succ, List.getElem_cons_zero]); first | (go_simp; done) | (go_simp; with_reducible rfl)
                        try simp only [Act.put, List.setIfInBounds_toArray, List.set_cons_zero, List.set_cons_succ, List.getElem_toArray, List.getElem_cons_succ, List.getElem_cons_zero]
                        refine wpAnyH_take (i := 9) (v := ?_) rfl (by kernel_rfl) (by kernel_rfl) (by kernel_rfl) (fun _ _ _ h => h) (Or.inl ⟨by rfl, ?_⟩) (by assumption) ?_
                        rotate_left
                        · intro X9 hSw; (try dsimp only at hSw); obtain ⟨hs1, hs2⟩ := hSw; (try simp only [List.getElem_toArray, List.getElem_cons_succ, List.getElem_cons_zero]); first | (go_simp; done) | (go_simp; with_reducible rfl)
                        try simp only [Act.put, List.setIfInBounds_toArray, List.set_cons_zero, List.set_cons_succ, List.getElem_toArray, List.getElem_cons_succ, List.getElem_cons_zero]
                        refine wpAnyH_take (i := 10) (v := ?_) rfl (by kernel_rfl) (by kernel_rfl) (by kernel_rfl) (fun _ _ _ h => h) (Or.inl ⟨by rfl, ?_⟩) (by assumption) ?_
                        rotate_left
                        · intro X9 hSw; (try dsimp only at hSw); obtain ⟨hs1, hs2⟩ := hSw; (try simp only [List.getElem_toArray, List.getElem_cons_succ, List.getElem_cons_zero]); first | (go_simp; done) | (go_simp; with_reducible rfl)
                        try simp only [Act.put, List.setIfInBounds_toArray, List.set_cons_zero, List.set_cons_succ, List.getElem_toArray, List.getElem_cons_succ, List.getElem_cons_zero]
                        refine wpAnyH_take (i := 11) (v := ?_) rfl (by kernel_rfl) (by kernel_rfl) (by kernel_rfl) (fun _ _ _ h => h) (Or.inl ⟨by rfl, ?_⟩) (by assumption) ?_
                        rotate_left
                        · intro X9 hSw; (try dsimp only at hSw); obtain ⟨hs1, hs2⟩ := hSw; (try simp only [List.getElem_toArray, List.getElem_cons_succ, List.getElem_cons_zero]); first | (go_simp; done) | (go_simp; with_reducible rfl)
                        try simp only [Act.put, List.setIfInBounds_toArray, List.set_cons_zero, List.set_cons_succ, List.getElem_toArray, List.getElem_cons_succ, List.getElem_cons_zero]
                        refine wpAnyH_take (i := 12) (v := ?_) rfl (by kernel_rfl) (by kernel_rfl) (by kernel_rfl) (fun _ _ _ h => h) (Or.inl ⟨by rfl, ?_⟩) (by assumption) ?_
                        rotate_left
                        · intro X9 hSw; (try dsimp only at hSw); obtain ⟨hs1, hs2⟩ := hSw; (try simp only [List.getElem_toArray, List.getElem_cons_succ, List.getElem_cons_zero]); first | (go_simp; done) | (go_simp; with_reducible rfl)
                        try simp only [Act.put, List.setIfInBounds_toArray, List.set_cons_zero, List.set_cons_succ, List.getElem_toArray, List.getElem_cons_succ, List.getElem_cons_zero]
                        refine wpAnyH_ready (rs := [6]) (by kernel_rfl) (by simp) (AllReadyH.cons rfl (fun K hK => ?_) (AllReadyH.nil))
                        try simp only [List.getElem_toArray, List.getElem_cons_succ, List.getElem_cons_zero]
                        go_simp
                        refine (CH.out _ hd0).mono ?_
                        rintro e w2 ⟨rfl, hbw, hcw⟩
                        refine hK.out _ _ (hcw) (fun hHeld => ?_)
                        clear hK K
                        try simp only [Act.put, List.setIfInBounds_toArray, List.set_cons_zero, List.set_cons_succ, List.getElem_toArray, List.getElem_cons_succ, List.getElem_cons_zero]
                        refine wpAnyH_ready (rs := [13]) (by kernel_rfl) (by simp) (AllReadyH.cons rfl (fun K hK => ?_) (AllReadyH.nil))
                        try simp only [List.getElem_toArray, List.getElem_cons_succ, List.getElem_cons_zero]
                        go_simp
                        refine (CH2.out _ hbw).mono ?_
                        rintro e w3 ⟨rfl, rfl⟩
                        refine hK.out _ _ (hcw) (fun hHeld => ?_)
                        clear hK K
                        try simp only [Act.put, List.setIfInBounds_toArray, List.set_cons_zero, List.set_cons_succ, List.getElem_toArray, List.getElem_cons_succ, List.getElem_cons_zero]
                        refine wpAnyH_take (i := 14) (v := ?_) rfl (by kernel_rfl) (by kernel_rfl) (by kernel_rfl) (fun _ _ _ h => h) (Or.inl ⟨by rfl, ?_⟩) (by assumption) ?_
                        rotate_left
                        · intro X9 hSw; (try dsimp only at hSw); obtain ⟨hs1, hs2⟩ := hSw; (try simp only [List.getElem_toArray, List.getElem_cons_succ, List.getElem_cons_zero]); first | (go_simp; done) | (go_simp; with_reducible rfl)
                        try simp only [Act.put, List.setIfInBounds_toArray, List.set_cons_zero, List.set_cons_succ, List.getElem_toArray, List.getElem_cons_succ, List.getElem_cons_zero]
                        refine wpAnyH_take (i := 15) (v := ?_) rfl (by kernel_rfl) (by kernel_rfl) (by kernel_rfl) (fun _ _ _ h => h) (Or.inl ⟨by rfl, ?_⟩) (by assumption) ?_
                        rotate_left
                        · intro X9 hSw; (try dsimp only at hSw); obtain ⟨hs1, hs2⟩ := hSw; (try simp only [List.getElem_toArray, List.getElem_cons_succ, List.getElem_cons_zero]); first | (go_simp; done) | (go_simp; with_reducible rfl)
                        try simp only [Act.put, List.setIfInBounds_toArray, List.set_cons_zero, List.set_cons_succ, List.getElem_toArray, List.getElem_cons_succ, List.getElem_cons_zero]
                        refine wpAnyH_take (i := 16) (v := ?_) rfl (by kernel_rfl) (by kernel_rfl) (by kernel_rfl) (fun _ _ _ h => h) (Or.inl ⟨by rfl, ?_⟩) (by assumption) ?_
                        rotate_left
                        · intro X9 hSw; (try dsimp only at hSw); obtain ⟨hs1, hs2⟩ := hSw; (try simp only [List.getElem_toArray, List.getElem_cons_succ, List.getElem_cons_zero]); first | (go_simp; done) | (go_simp; with_reducible rfl)
                        try simp only [Act.put, List.setIfInBounds_toArray, List.set_cons_zero, List.set_cons_succ, List.getElem_toArray, List.getElem_cons_succ, List.getElem_cons_zero]
                        refine wpAnyH_take (i := 17) (v := ?_) rfl (by kernel_rfl) (by kernel_rfl) (by kernel_rfl) (fun _ _ _ h => h) (Or.inl ⟨by rfl, ?_⟩) (by assumption) ?_
                        rotate_left
                        · intro X9 hSw; (try dsimp only at hSw); obtain ⟨hs1, hs2⟩ := hSw; (try simp only [List.getElem_toArray, List.getElem_cons_succ, List.getElem_cons_zero]); first | (go_simp; done) | (go_simp; with_reducible rfl)
                        try simp only [Act.put, List.setIfInBounds_toArray, List.set_cons_zero, List.set_cons_succ, List.getElem_toArray, List.getElem_cons_succ, List.getElem_cons_zero]
                        refine wpAnyH_take (i := 18) (v := ?_) rfl (by kernel_rfl) (by kernel_rfl) (by kernel_rfl) (fun _ _ _ h => h) (Or.inl ⟨by rfl, ?_⟩) (by assumption) ?_
                        rotate_left
                        · intro X9 hSw; (try dsimp only at hSw); obtain ⟨hs1, hs2⟩ := hSw; (try simp only [List.getElem_toArray, List.getElem_cons_succ, List.getElem_cons_zero]); first | (go_simp; done) | (go_simp; with_reducible rfl)
                        try simp only [Act.put, List.setIfInBounds_toArray, List.set_cons_zero, List.set_cons_succ, List.getElem_toArray, List.getElem_cons_succ, List.getElem_cons_zero]
                        refine wpAnyH_take (i := 19) (v := ?_) rfl (by kernel_rfl) (by kernel_rfl) (by kernel_rfl) (fun _ _ _ h => h) (Or.inl ⟨by rfl, ?_⟩) (by assumption) ?_
                        rotate_left
                        · intro X9 hSw; (try dsimp only at hSw); obtain ⟨hs1, hs2⟩ := hSw; (try simp only [List.getElem_toArray, List.getElem_cons_succ, List.getElem_cons_zero]); first | (go_simp; done) | (go_simp; with_reducible rfl)
                        try simp only [Act.put, List.setIfInBounds_toArray, List.set_cons_zero, List.set_cons_succ, List.getElem_toArray, List.getElem_cons_succ, List.getElem_cons_zero]
                        refine wpAnyH_take (i := 20) (v := ?_) rfl (by kernel_rfl) (by kernel_rfl) (by kernel_rfl) (fun _ _ _ h => h) (Or.inl ⟨by rfl, ?_⟩) (by assumption) ?_
                        rotate_left
                        · intro X9 hSw; (try dsimp only at hSw); obtain ⟨hs1, hs2⟩ := hSw; (try simp only [List.getElem_toArray, List.getElem_cons_succ, List.getElem_cons_zero]); first | (go_simp; done) | (go_simp; with_reducible rfl)
                        try simp only [Act.put, List.setIfInBounds_toArray, List.set_cons_zero, List.set_cons_succ, List.getElem_toArray, List.getElem_cons_succ, List.getElem_cons_zero]
                        refine wpAnyH_take (i := 21) (v := ?_) rfl (by kernel_rfl) (by kernel_rfl) (by kernel_rfl) (fun _ _ _ h => h) (Or.inl ⟨by rfl, ?_⟩) (by assumption) ?_
                        rotate_left
                        · intro X9 hSw; (try dsimp only at hSw); obtain ⟨hs1, hs2⟩ := hSw; (try simp only [List.getElem_toArray, List.getElem_cons_succ, List.getElem_cons_zero]); first | (go_simp; done) | (go_simp; with_reducible rfl)
                        try simp only [Act.put, List.setIfInBounds_toArray, List.set_cons_zero, List.set_cons_succ, List.getElem_toArray, List.getElem_cons_succ, List.getElem_cons_zero]
                        refine wpAnyH_take (i := 22) (v := ?_) rfl (by kernel_rfl) (by kernel_rfl) (by kernel_rfl) (fun _ _ _ h => h) (Or.inl ⟨by rfl, ?_⟩) (by assumption) ?_
                        rotate_left
                        · intro X9 hSw; (try dsimp only at hSw); obtain ⟨hs1, hs2⟩ := hSw; (try simp only [List.getElem_toArray, List.getElem_cons_succ, List.getElem_cons_zero]); first | (go_simp; done) | (go_simp; with_reducible rfl)
                        try simp only [Act.put, List.setIfInBounds_toArray, List.set_cons_zero, List.set_cons_succ, List.getElem_toArray, List.getElem_cons_succ, List.getElem_cons_zero]
                        refine wpAnyH_take (i := 23) (v := ?_) rfl (by kernel_rfl) (by kernel_rfl) (by kernel_rfl) (fun _ _ _ h => h) (Or.inl ⟨by rfl, ?_⟩) (by assumption) ?_
                        rotate_left
                        · intro X9 hSw; (try dsimp only at hSw); obtain ⟨hs1, hs2⟩ := hSw; (try simp only [List.getElem_toArray, List.getElem_cons_succ, List.getElem_cons_zero]); first | (go_simp; done) | (go_simp; with_reducible rfl)
                        try simp only [Act.put, List.setIfInBounds_toArray, List.set_cons_zero, List.set_cons_succ, List.getElem_toArray, List.getElem_cons_succ, List.getElem_cons_zero]
                        refine wpAnyH_take (i := 24) (v := ?_) rfl (by kernel_rfl) (by kernel_rfl) (by kernel_rfl) (fun _ _ _ h => h) (Or.inl ⟨by rfl, ?_⟩) (by assumption) ?_
                        rotate_left
                        · intro X9 hSw; (try dsimp only at hSw); obtain ⟨hs1, hs2⟩ := hSw; (try simp only [List.getElem_toArray, List.getElem_cons_succ, List.getElem_cons_zero]); first | (go_simp; done) | (go_simp; with_reducible rfl)
                        try simp only [Act.put, List.setIfInBounds_toArray, List.set_cons_zero, List.set_cons_succ, List.getElem_toArray, List.getElem_cons_succ, List.getElem_cons_zero]
                        refine wpAnyH_take (i := 25) (v := ?_) rfl (by kernel_rfl) (by kernel_rfl) (by kernel_rfl) (fun _ _ _ h => h) (Or.inl ⟨by rfl, ?_⟩) (by assumption) ?_
                        rotate_left
                        · intro X9 hSw; (try dsimp only at hSw); obtain ⟨hs1, hs2⟩ := hSw; (try simp only [List.getElem_toArray, List.getElem_cons_succ, List.getElem_cons_zero]); first | (go_simp; done) | (go_simp; with_reducible rfl)
                        try simp only [Act.put, List.setIfInBounds_toArray, List.set_cons_zero, List.set_cons_succ, List.getElem_toArray, List.getElem_cons_succ, List.getElem_cons_zero]
                        refine wpAnyH_take (i := 26) (v := ?_) rfl (by kernel_rfl) (by kernel_rfl) (by kernel_rfl) (fun _ _ _ h => h) (Or.inl ⟨by rfl, ?_⟩) (by assumption) ?_
                        rotate_left
                        · intro X9 hSw; (try dsimp only at hSw); obtain ⟨hs1, hs2⟩ := hSw; (try simp only [List.getElem_toArray, List.getElem_cons_succ, List.getElem_cons_zero]); first | (go_simp; done) | (go_simp; with_reducible rfl)
                        try simp only [Act.put, List.setIfInBounds_toArray, List.set_cons_zero, List.set_cons_succ, List.getElem_toArray, List.getElem_cons_succ, List.getElem_cons_zero]
                        refine wpAnyH_take (i := 27) (v := ?_) rfl (by kernel_rfl) (by kernel_rfl) (by kernel_rfl) (fun _ _ _ h => h) (Or.inl ⟨by rfl, ?_⟩) (by assumption) ?_
                        rotate_left
                        · intro X9 hSw; (try dsimp only at hSw); obtain ⟨hs1, hs2⟩ := hSw; (try simp only [List.getElem_toArray, List.getElem_cons_succ, List.getElem_cons_zero]); first | (go_simp; done) | (go_simp; with_reducible rfl)
                        try simp only [Act.put, List.setIfInBounds_toArray, List.set_cons_zero, List.set_cons_succ, List.getElem_toArray, List.getElem_cons_succ, List.getElem_cons_zero]
                        refine wpAnyH_take (i := 28) (v := ?_) rfl (by kernel_rfl) (by kernel_rfl) (by kernel_rfl) (fun _ _ _ h => h) (Or.inl ⟨by rfl, ?_⟩) (by assumption) ?_
                        rotate_left
                        · intro X9 hSw; (try dsimp only at hSw); obtain ⟨hs1, hs2⟩ := hSw; (try simp only [List.getElem_toArray, List.getElem_cons_succ, List.getElem_cons_zero]); first | (go_simp; done) | (go_simp; with_reducible rfl)
                        try simp only [Act.put, List.setIfInBounds_toArray, List.set_cons_zero, List.set_cons_succ, List.getElem_toArray, List.getElem_cons_succ, List.getElem_cons_zero]
                        refine wpAnyH_take (i := 30) (v := ?_) rfl (by kernel_rfl) (by kernel_rfl) (by kernel_rfl) (fun _ _ _ h => h) (Or.inl ⟨by rfl, ?_⟩) (by assumption) ?_
                        rotate_left
                        · intro X9 hSw; (try dsimp only at hSw); obtain ⟨hs1, hs2⟩ := hSw; (try simp only [List.getElem_toArray, List.getElem_cons_succ, List.getElem_cons_zero]); first | (go_simp; done) | (go_simp; with_reducible rfl)
                        try simp only [Act.put, List.setIfInBounds_toArray, List.set_cons_zero, List.set_cons_succ, List.getElem_toArray, List.getElem_cons_succ, List.getElem_cons_zero]
                        refine wpAnyH_take (i := 31) (v := ?_) rfl (by kernel_rfl) (by kernel_rfl) (by kernel_rfl) (fun _ _ _ h => h) (Or.inl ⟨by rfl, ?_⟩) (by assumption) ?_
                        rotate_left
                        · intro X9 hSw; (try dsimp only at hSw); obtain ⟨hs1, hs2⟩ := hSw; (try simp only [List.getElem_toArray, List.getElem_cons_succ, List.getElem_cons_zero]); first | (go_simp; done) | (go_simp; with_reducible rfl)
                        try simp only [Act.put, List.setIfInBounds_toArray, List.set_cons_zero, List.set_cons_succ, List.getElem_toArray, List.getElem_cons_succ, List.getElem_cons_zero]
                        refine wpAnyH_take (i := 32) (v := ?_) rfl (by kernel_rfl) (by kernel_rfl) (by kernel_rfl) (fun _ _ _ h => h) (Or.inl ⟨by rfl, ?_⟩) (by assumption) ?_
                        rotate_left
                        · intro X9 hSw; (try dsimp only at hSw); obtain ⟨hs1, hs2⟩ := hSw; (try simp only [List.getElem_toArray, List.getElem_cons_succ, List.getElem_cons_zero]); first | (go_simp; done) | (go_simp; with_reducible rfl)
                        try simp only [Act.put, List.setIfInBounds_toArray, List.set_cons_zero, List.set_cons_succ, List.getElem_toArray, List.getElem_cons_succ, List.getElem_cons_zero]
                        refine wpAnyH_take (i := 33) (v := ?_) rfl (by kernel_rfl) (by kernel_rfl) (by kernel_rfl) (fun _ _ _ h => h) (Or.inl ⟨by rfl, ?_⟩) (by assumption) ?_
                        rotate_left
                        · intro X9 hSw; (try dsimp only at hSw); obtain ⟨hs1, hs2⟩ := hSw; (try simp only [List.getElem_toArray, List.getElem_cons_succ, List.getElem_cons_zero]); first | (go_simp; done) | (go_simp; with_reducible rfl)
                        try simp only [Act.put, List.setIfInBounds_toArray, List.set_cons_zero, List.set_cons_succ, List.getElem_toArray, List.getElem_cons_succ, List.getElem_cons_zero]
                        refine wpAnyH_take (i := 34) (v := ?_) rfl (by kernel_rfl) (by kernel_rfl) (by kernel_rfl) (fun _ _ _ h => h) (Or.inl ⟨by rfl, ?_⟩) (by assumption) ?_
                        rotate_left
                        · intro X9 hSw; (try dsimp only at hSw); obtain ⟨hs1, hs2⟩ := hSw; (try simp only [List.getElem_toArray, List.getElem_cons_succ, List.getElem_cons_zero]); first | (go_simp; done) | (go_simp; with_reducible rfl)
                        try simp only [Act.put, List.setIfInBounds_toArray, List.set_cons_zero, List.set_cons_succ, List.getElem_toArray, List.getElem_cons_succ, List.getElem_cons_zero]
                        refine wpAnyH_take (i := 35) (v := ?_) rfl (by kernel_rfl) (by kernel_rfl) (by kernel_rfl) (fun _ _ _ h => h) (Or.inl ⟨by rfl, ?_⟩) (by assumption) ?_
                        rotate_left
                        · intro X9 hSw; (try dsimp only at hSw); obtain ⟨hs1, hs2⟩ := hSw; (try simp only [List.getElem_toArray, List.getElem_cons_succ, List.getElem_cons_zero]); first | (go_simp; done) | (go_simp; with_reducible rfl)
                        try simp only [Act.put, List.setIfInBounds_toArray, List.set_cons_zero, List.set_cons_succ, List.getElem_toArray, List.getElem_cons_succ, List.getElem_cons_zero]
                        refine wpAnyH_ready (rs := [29]) (by kernel_rfl) (by simp) (AllReadyH.cons rfl (fun K hK => ?_) (AllReadyH.nil))
                        try simp only [List.getElem_toArray, List.getElem_cons_succ, List.getElem_cons_zero]
                        go_simp
                        refine (CH.out _ hbw).mono ?_
                        rintro e w4 ⟨rfl, hbw4, hcw4⟩
                        refine hK.out _ _ (hcw4) (fun hHeld => ?_)
                        clear hK K
                        try simp only [Act.put, List.setIfInBounds_toArray, List.set_cons_zero, List.set_cons_succ, List.getElem_toArray, List.getElem_cons_succ, List.getElem_cons_zero]
                        refine wpAnyH_ready (rs := [36]) (by kernel_rfl) (by simp) (AllReadyH.cons rfl (fun K hK => ?_) (AllReadyH.nil))
                        try simp only [List.getElem_toArray, List.getElem_cons_succ, List.getElem_cons_zero]
                        go_simp
                        refine (CH.out _ hbw4).mono ?_
                        rintro e w5 ⟨rfl, hbw5, hcw5⟩
                        refine hK.out _ _ (hcw5) (fun hHeld => ?_)
                        clear hK K
                        try simp only [Act.put, List.setIfInBounds_toArray, List.set_cons_zero, List.set_cons_succ, List.getElem_toArray, List.getElem_cons_succ, List.getElem_cons_zero]
                        refine wpAnyH_take (i := 37) (v := ?_) rfl (by kernel_rfl) (by kernel_rfl) (by kernel_rfl) (fun _ _ _ h => h) (Or.inl ⟨by rfl, ?_⟩) (by assumption) ?_
                        rotate_left
                        · intro X9 hSw; (try dsimp only at hSw); obtain ⟨hs1, hs2⟩ := hSw; (try simp only [List.getElem_toArray, List.getElem_cons_succ, List.getElem_cons_zero]); first | (go_simp; done) | (go_simp; with_reducible rfl)
                        try simp only [Act.put, List.setIfInBounds_toArray, List.set_cons_zero, List.set_cons_succ, List.getElem_toArray, List.getElem_cons_succ, List.getElem_cons_zero]
                        refine wpAnyH_take (i := 38) (v := ?_) rfl (by kernel_rfl) (by kernel_rfl) (by kernel_rfl) (fun _ _ _ h => h) (Or.inl ⟨by rfl, ?_⟩) (by assumption) ?_
                        rotate_left
                        · intro X9 hSw; (try dsimp only at hSw); obtain ⟨hs1, hs2⟩ := hSw; (try simp only [List.getElem_toArray, List.getElem_cons_succ, List.getElem_cons_zero]); first | (go_simp; done) | (go_simp; with_reducible rfl)
                        try simp only [Act.put, List.setIfInBounds_toArray, List.set_cons_zero, List.set_cons_succ, List.getElem_toArray, List.getElem_cons_succ, List.getElem_cons_zero]
                        refine wpAnyH_take (i := 39) (v := ?_) rfl (by kernel_rfl) (by kernel_rfl) (by kernel_rfl) (fun _ _ _ h => h) (Or.inl ⟨by rfl, ?_⟩) (by assumption) ?_
                        rotate_left
                        · intro X9 hSw; (try dsimp only at hSw); obtain ⟨hs1, hs2⟩ := hSw; (try simp only [List.getElem_toArray, List.getElem_cons_succ, List.getElem_cons_zero]); first | (go_simp; done) | (go_simp; with_reducible rfl)
                        try simp only [Act.put, List.setIfInBounds_toArray, List.set_cons_zero, List.set_cons_succ, List.getElem_toArray, List.getElem_cons_succ, List.getElem_cons_zero]
                        refine wpAnyH_done (by kernel_rfl) ?_ _
                        have HB9 := Lib.hid hbw5
                        clear hbw hcw hbw4 hcw4 hbw5 hcw5 hd0 hs0
                        go_wp2
                        go_roundw
                        case rel => exact ⟨j + 1, hjq, by go_num, HNL.out.bnew HB9.out, (HB9.out.block b0 hb0r).trans HX.out, HBL.out.trans (HB9.out.mono HBL.out.size)⟩
                        case measure => simp [intOf]; omega
                  · cases hv
                    · as_aux_lemma =>
                        go_wp2
                        refine wp_region_held_drew (S := fun W => W.cell? ⟨b0, 1, none⟩ = some (.slice (some ad) q tc) ∧ W.cell? (ad.add j) = some (.string s) ∧ W.cell? ⟨bo, 0, none⟩ = some (.pointer (some ⟨co, 0, none⟩))) (by kernel_rfl) (show (wr.drew).cell? _ = _ ∧ (wr.drew).cell? _ = _ ∧ (wr.drew).cell? _ = _ from hs0) (fun hHeld => ?_)
                        refine wpAnyH_take (i := 0) (v := ?_) rfl (by kernel_rfl) (by kernel_rfl) (by kernel_rfl) (fun _ _ _ h => h) (Or.inl ⟨by rfl, ?_⟩) (by assumption) ?_
                        rotate_left
                        · intro X9 hSw; (try dsimp only at hSw); obtain ⟨hs1, hs2⟩ := hSw; (try simp only [List.getElem_toArray, List.getElem_cons_zero]); first | (go_simp; done) | (go_simp; with_reducible rfl)
                        try simp only [Act.put, List.setIfInBounds_toArray, List.set_cons_zero, List.set_cons_succ, List.getElem_toArray, List.getElem_cons_zero]
                        refine wpAnyH_take (i := 1) (v := ?_) rfl (by kernel_rfl) (by kernel_rfl) (by kernel_rfl) (fun _ _ _ h => h) (Or.inl ⟨by rfl, ?_⟩) (by assumption) ?_
                        rotate_left
                        · intro X9 hSw; (try dsimp only at hSw); obtain ⟨hs1, hs2⟩ := hSw; (try simp only [List.getElem_toArray, List.getElem_cons_succ, List.getElem_cons_zero]); first | (go_simp; done) | (go_simp; with_reducible rfl)
                        try simp only [Act.put, List.setIfInBounds_toArray, List.set_cons_zero, List.set_cons_succ, List.getElem_toArray, List.getElem_cons_succ, List.getElem_cons_zero]
                        refine wpAnyH_take (i := 2) (v := ?_) rfl (by kernel_rfl) (by kernel_rfl) (by kernel_rfl) (fun _ _ _ h => h) (Or.inl ⟨by rfl, ?_⟩) (by assumption) ?_
                        rotate_left
                        · intro X9 hSw; (try dsimp only at hSw); obtain ⟨hs1, hs2⟩ := hSw; (try simp only [List.getElem_toArray, List.getElem_cons_succ, List.getElem_cons_zero]); first | (go_simp; done) | (go_simp; with_reducible rfl)
                        try simp only [Act.put, List.setIfInBounds_toArray, List.set_cons_zero, List.set_cons_succ, List.getElem_toArray, List.getElem_cons_succ, List.getElem_cons_zero]
                        refine wpAnyH_take (i := 3) (v := ?_) rfl (by kernel_rfl) (by kernel_rfl) (by kernel_rfl) (fun _ _ _ h => h) (Or.inl ⟨by rfl, ?_⟩) (by assumption) ?_
                        rotate_left
                        · intro X9 hSw; (try dsimp only at hSw); obtain ⟨hs1, hs2⟩ := hSw; (try simp only [List.getElem_toArray, List.getElem_cons_succ, List.getElem_cons_zero]); first | (go_simp; done) | (go_simp; with_reducible rfl)
                        try simp only [Act.put, List.setIfInBounds_toArray, List.set_cons_zero, List.set_cons_succ, List.getElem_toArray, List.getElem_cons_succ, List.getElem_cons_zero]
                        refine wpAnyH_take (i := 4) (v := ?_) rfl (by kernel_rfl) (by kernel_rfl) (by kernel_rfl) (fun _ _ _ h => h) (Or.inl ⟨by rfl, ?_⟩) (by assumption) ?_
                        rotate_left
                        · intro X9 hSw; (try dsimp only at hSw); obtain ⟨hs1, hs2⟩ := hSw; (try simp only [List.getElem_toArray, List.getElem_cons_succ, List.getElem_cons_zero]); first | (go_simp; done) | (go_simp; with_reducible rfl)
                        try simp only [Act.put, List.setIfInBounds_toArray, List.set_cons_zero, List.set_cons_succ, List.getElem_toArray, List.getElem_cons_succ, List.getElem_cons_zero]
                        refine wpAnyH_take (i := 5) (v := ?_) rfl (by kernel_rfl) (by kernel_rfl) (by kernel_rfl) (fun _ _ _ h => h) (Or.inl ⟨by rfl, ?_⟩) (by assumption) ?_
                        rotate_left
                        · intro X9 hSw; (try dsimp only at hSw); obtain ⟨hs1, hs2⟩ := hSw; (try simp only [List.getElem_toArray, List.getElem_cons_succ, List.getElem_cons_zero]); first | (go_simp; done) | (go_simp; with_reducible rfl)
                        try simp only [Act.put, List.setIfInBounds_toArray, List.set_cons_zero, List.set_cons_succ, List.getElem_toArray, List.getElem_cons_succ, List.getElem_cons_zero]
                        refine wpAnyH_take (i := 7) (v := ?_) rfl (by kernel_rfl) (by kernel_rfl) (by kernel_rfl) (fun _ _ _ h => h) (Or.inl ⟨by rfl, ?_⟩) (by assumption) ?_
                        rotate_left
                        · intro X9 hSw; (try dsimp only at hSw); obtain ⟨hs1, hs2⟩ := hSw; (try simp only [List.getElem_toArray, List.getElem_cons_succ, List.getElem_cons_zero]); first | (go_simp; done) | (go_simp; with_reducible rfl)
                        try simp only [Act.put, List.setIfInBounds_toArray, List.set_cons_zero, List.set_cons_succ, List.getElem_toArray, List.getElem_cons_succ, List.getElem_cons_zero]
                        refine wpAnyH_take (i := 8) (v := ?_) rfl (by kernel_rfl) (by kernel_rfl) (by kernel_rfl) (fun _ _ _ h => h) (Or.inl ⟨by rfl, ?_⟩) (by assumption) ?_
                        rotate_left
                        · intro X9 hSw; (try dsimp only at hSw); obtain ⟨hs1, hs2⟩ := hSw; (try simp only [List.getElem_toArray, List.getElem_cons_succ, List.getElem_cons_zero]); first | (go_simp; done) | (go_simp; with_reducible rfl)
                        try simp only [Act.put, List.setIfInBounds_toArray, List.set_cons_zero, List.set_cons_succ, List.getElem_toArray, List.getElem_cons_succ, List.getElem_cons_zero]
                        refine wpAnyH_take (i := 9) (v := ?_) rfl (by kernel_rfl) (by kernel_rfl) (by kernel_rfl) (fun _ _ _ h => h) (Or.inl ⟨by rfl, ?_⟩) (by assumption) ?_
                        rotate_left
                        · intro X9 hSw; (try dsimp only at hSw); obtain ⟨hs1, hs2⟩ := hSw; (try simp only [List.getElem_toArray, List.getElem_cons_succ, List.getElem_cons_zero]); first | (go_simp; done) | (go_simp; with_reducible rfl)
                        try simp only [Act.put, List.setIfInBounds_toArray, List.set_cons_zero, List.set_cons_succ, List.getElem_toArray, List.getElem_cons_succ, List.getElem_cons_zero]
                        refine wpAnyH_take (i := 10) (v := ?_) rfl (by kernel_rfl) (by kernel_rfl) (by kernel_rfl) (fun _ _ _ h => h) (Or.inl ⟨by rfl, ?_⟩) (by assumption) ?_
                        rotate_left
                        · intro X9 hSw; (try dsimp only at hSw); obtain ⟨hs1, hs2⟩ := hSw; (try simp only [List.getElem_toArray, List.getElem_cons_succ, List.getElem_cons_zero]); first | (go_simp; done) | (go_simp; with_reducible rfl)
                        try simp only [Act.put, List.setIfInBounds_toArray, List.set_cons_zero, List.set_cons_succ, List.getElem_toArray, List.getElem_cons_succ, List.getElem_cons_zero]
                        refine wpAnyH_take (i := 11) (v := ?_) rfl (by kernel_rfl) (by kernel_rfl) (by kernel_rfl) (fun _ _ _ h => h) (Or.inl ⟨by rfl, ?_⟩) (by assumption) ?_
                        rotate_left
                        · intro X9 hSw; (try dsimp only at hSw); obtain ⟨hs1, hs2⟩ := hSw; (try simp only [List.getElem_toArray, List.getElem_cons_succ, List.getElem_cons_zero]); first | (go_simp; done) | (go_simp; with_reducible rfl)
                        try simp only [Act.put, List.setIfInBounds_toArray, List.set_cons_zero, List.set_cons_succ, List.getElem_toArray, List.getElem_cons_succ, List.getElem_cons_zero]
                        refine wpAnyH_take (i := 12) (v := ?_) rfl (by kernel_rfl) (by kernel_rfl) (by kernel_rfl) (fun _ _ _ h => h) (Or.inl ⟨by rfl, ?_⟩) (by assumption) ?_
                        rotate_left
                        · intro X9 hSw; (try dsimp only at hSw); obtain ⟨hs1, hs2⟩ := hSw; (try simp only [List.getElem_toArray, List.getElem_cons_succ, List.getElem_cons_zero]); first | (go_simp; done) | (go_simp; with_reducible rfl)
                        try simp only [Act.put, List.setIfInBounds_toArray, List.set_cons_zero, List.set_cons_succ, List.getElem_toArray, List.getElem_cons_succ, List.getElem_cons_zero]
                        refine wpAnyH_ready (rs := [6]) (by kernel_rfl) (by simp) (AllReadyH.cons rfl (fun K hK => ?_) (AllReadyH.nil))
                        try simp only [List.getElem_toArray, List.getElem_cons_succ, List.getElem_cons_zero]
                        go_simp
                        refine (CH.out _ hd0).mono ?_
                        rintro e w2 ⟨rfl, hbw, hcw⟩
                        refine hK.out _ _ (hcw) (fun hHeld => ?_)
                        clear hK K
                        try simp only [Act.put, List.setIfInBounds_toArray, List.set_cons_zero, List.set_cons_succ, List.getElem_toArray, List.getElem_cons_succ, List.getElem_cons_zero]
                        refine wpAnyH_ready (rs := [13]) (by kernel_rfl) (by simp) (AllReadyH.cons rfl (fun K hK => ?_) (AllReadyH.nil))
                        try simp only [List.getElem_toArray, List.getElem_cons_succ, List.getElem_cons_zero]
                        go_simp
                        refine (CH2.out _ hbw).mono ?_
                        rintro e w3 ⟨rfl, rfl⟩
                        refine hK.out _ _ (hcw) (fun hHeld => ?_)
                        clear hK K
                        try simp only [Act.put, List.setIfInBounds_toArray, List.set_cons_zero, List.set_cons_succ, List.getElem_toArray, List.getElem_cons_succ, List.getElem_cons_zero]
                        refine wpAnyH_take (i := 14) (v := ?_) rfl (by kernel_rfl) (by kernel_rfl) (by kernel_rfl) (fun _ _ _ h => h) (Or.inl ⟨by rfl, ?_⟩) (by assumption) ?_
                        rotate_left
                        · intro X9 hSw; (try dsimp only at hSw); obtain ⟨hs1, hs2⟩ := hSw; (try simp only [List.getElem_toArray, List.getElem_cons_succ, List.getElem_cons_zero]); first | (go_simp; done) | (go_simp; with_reducible rfl)
                        try simp only [Act.put, List.setIfInBounds_toArray, List.set_cons_zero, List.set_cons_succ, List.getElem_toArray, List.getElem_cons_succ, List.getElem_cons_zero]
                        refine wpAnyH_take (i := 15) (v := ?_) rfl (by kernel_rfl) (by kernel_rfl) (by kernel_rfl) (fun _ _ _ h => h) (Or.inl ⟨by rfl, ?_⟩) (by assumption) ?_
                        rotate_left
                        · intro X9 hSw; (try dsimp only at hSw); obtain ⟨hs1, hs2⟩ := hSw; (try simp only [List.getElem_toArray, List.getElem_cons_succ, List.getElem_cons_zero]); first | (go_simp; done) | (go_simp; with_reducible rfl)
                        try simp only [Act.put, List.setIfInBounds_toArray, List.set_cons_zero, List.set_cons_succ, List.getElem_toArray, List.getElem_cons_succ, List.getElem_cons_zero]
                        refine wpAnyH_take (i := 16) (v := ?_) rfl (by kernel_rfl) (by kernel_rfl) (by kernel_rfl) (fun _ _ _ h => h) (Or.inl ⟨by rfl, ?_⟩) (by assumption) ?_
                        rotate_left
                        · intro X9 hSw; (try dsimp only at hSw); obtain ⟨hs1, hs2⟩ := hSw; (try simp only [List.getElem_toArray, List.getElem_cons_succ, List.getElem_cons_zero]); first | (go_simp; done) | (go_simp; with_reducible rfl)
                        try simp only [Act.put, List.setIfInBounds_toArray, List.set_cons_zero, List.set_cons_succ, List.getElem_toArray, List.getElem_cons_succ, List.getElem_cons_zero]
                        refine wpAnyH_take (i := 17) (v := ?_) rfl (by kernel_rfl) (by kernel_rfl) (by kernel_rfl) (fun _ _ _ h => h) (Or.inl ⟨by rfl, ?_⟩) (by assumption) ?_
                        rotate_left
                        · intro X9 hSw; (try dsimp only at hSw); obtain ⟨hs1, hs2⟩ := hSw; (try simp only [List.getElem_toArray, List.getElem_cons_succ, List.getElem_cons_zero]); first | (go_simp; done) | (go_simp; with_reducible rfl)
                        try simp only [Act.put, List.setIfInBounds_toArray, List.set_cons_zero, List.set_cons_succ, List.getElem_toArray, List.getElem_cons_succ, List.getElem_cons_zero]
                        refine wpAnyH_take (i := 18) (v := ?_) rfl (by kernel_rfl) (by kernel_rfl) (by kernel_rfl) (fun _ _ _ h => h) (Or.inl ⟨by rfl, ?_⟩) (by assumption) ?_
                        rotate_left
                        · intro X9 hSw; (try dsimp only at hSw); obtain ⟨hs1, hs2⟩ := hSw; (try simp only [List.getElem_toArray, List.getElem_cons_succ, List.getElem_cons_zero]); first | (go_simp; done) | (go_simp; with_reducible rfl)
                        try simp only [Act.put, List.setIfInBounds_toArray, List.set_cons_zero, List.set_cons_succ, List.getElem_toArray, List.getElem_cons_succ, List.getElem_cons_zero]
                        refine wpAnyH_take (i := 19) (v := ?_) rfl (by kernel_rfl) (by kernel_rfl) (by kernel_rfl) (fun _ _ _ h => h) (Or.inl ⟨by rfl, ?_⟩) (by assumption) ?_
                        rotate_left
                        · intro X9 hSw; (try dsimp only at hSw); obtain ⟨hs1, hs2⟩ := hSw; (try simp only [List.getElem_toArray, List.getElem_cons_succ, List.getElem_cons_zero]); first | (go_simp; done) | (go_simp; with_reducible rfl)
                        try simp only [Act.put, List.setIfInBounds_toArray, List.set_cons_zero, List.set_cons_succ, List.getElem_toArray, List.getElem_cons_succ, List.getElem_cons_zero]
                        refine wpAnyH_take (i := 20) (v := ?_) rfl (by kernel_rfl) (by kernel_rfl) (by kernel_rfl) (fun _ _ _ h => h) (Or.inl ⟨by rfl, ?_⟩) (by assumption) ?_
                        rotate_left
                        · intro X9 hSw; (try dsimp only at hSw); obtain ⟨hs1, hs2⟩ := hSw; (try simp only [List.getElem_toArray, List.getElem_cons_succ, List.getElem_cons_zero]); first | (go_simp; done) | (go_simp; with_reducible rfl)
                        try simp only [Act.put, List.setIfInBounds_toArray, List.set_cons_zero, List.set_cons_succ, List.getElem_toArray, List.getElem_cons_succ, List.getElem_cons_zero]
                        refine wpAnyH_take (i := 21) (v := ?_) rfl (by kernel_rfl) (by kernel_rfl) (by kernel_rfl) (fun _ _ _ h => h) (Or.inl ⟨by rfl, ?_⟩) (by assumption) ?_
                        rotate_left
                        · intro X9 hSw; (try dsimp only at hSw); obtain ⟨hs1, hs2⟩ := hSw; (try simp only [List.getElem_toArray, List.getElem_cons_succ, List.getElem_cons_zero]); first | (go_simp; done) | (go_simp; with_reducible rfl)
                        try simp only [Act.put, List.setIfInBounds_toArray, List.set_cons_zero, List.set_cons_succ, List.getElem_toArray, List.getElem_cons_succ, List.getElem_cons_zero]
                        refine wpAnyH_take (i := 22) (v := undef) rfl (by kernel_rfl) (by kernel_rfl) (by kernel_rfl) (fun _ _ _ h => h) (Or.inr ⟨by rfl, rfl⟩) (by assumption) ?_
                        try simp only [Act.put, List.setIfInBounds_toArray, List.set_cons_zero, List.set_cons_succ, List.getElem_toArray, List.getElem_cons_succ, List.getElem_cons_zero]
                        refine wpAnyH_take (i := 23) (v := undef) rfl (by kernel_rfl) (by kernel_rfl) (by kernel_rfl) (fun _ _ _ h => h) (Or.inr ⟨by rfl, rfl⟩) (by assumption) ?_
                        try simp only [Act.put, List.setIfInBounds_toArray, List.set_cons_zero, List.set_cons_succ, List.getElem_toArray, List.getElem_cons_succ, List.getElem_cons_zero]
                        refine wpAnyH_take (i := 24) (v := undef) rfl (by kernel_rfl) (by kernel_rfl) (by kernel_rfl) (fun _ _ _ h => h) (Or.inr ⟨by rfl, rfl⟩) (by assumption) ?_
                        try simp only [Act.put, List.setIfInBounds_toArray, List.set_cons_zero, List.set_cons_succ, List.getElem_toArray, List.getElem_cons_succ, List.getElem_cons_zero]
                        refine wpAnyH_take (i := 25) (v := undef) rfl (by kernel_rfl) (by kernel_rfl) (by kernel_rfl) (fun _ _ _ h => h) (Or.inr ⟨by rfl, rfl⟩) (by assumption) ?_
                        try simp only [Act.put, List.setIfInBounds_toArray, List.set_cons_zero, List.set_cons_succ, List.getElem_toArray, List.getElem_cons_succ, List.getElem_cons_zero]
                        refine wpAnyH_take (i := 26) (v := undef) rfl (by kernel_rfl) (by kernel_rfl) (by kernel_rfl) (fun _ _ _ h => h) (Or.inr ⟨by rfl, rfl⟩) (by assumption) ?_
                        try simp only [Act.put, List.setIfInBounds_toArray, List.set_cons_zero, List.set_cons_succ, List.getElem_toArray, List.getElem_cons_succ, List.getElem_cons_zero]
                        refine wpAnyH_take (i := 27) (v := undef) rfl (by kernel_rfl) (by kernel_rfl) (by kernel_rfl) (fun _ _ _ h => h) (Or.inr ⟨by rfl, rfl⟩) (by assumption) ?_
                        try simp only [Act.put, List.setIfInBounds_toArray, List.set_cons_zero, List.set_cons_succ, List.getElem_toArray, List.getElem_cons_succ, List.getElem_cons_zero]
                        refine wpAnyH_take (i := 28) (v := undef) rfl (by kernel_rfl) (by kernel_rfl) (by kernel_rfl) (fun _ _ _ h => h) (Or.inr ⟨by rfl, rfl⟩) (by assumption) ?_
                        try simp only [Act.put, List.setIfInBounds_toArray, List.set_cons_zero, List.set_cons_succ, List.getElem_toArray, List.getElem_cons_succ, List.getElem_cons_zero]
                        refine wpAnyH_take (i := 29) (v := undef) rfl (by kernel_rfl) (by kernel_rfl) (by kernel_rfl) (fun _ _ _ h => h) (Or.inr ⟨by rfl, rfl⟩) (by assumption) ?_
                        try simp only [Act.put, List.setIfInBounds_toArray, List.set_cons_zero, List.set_cons_succ, List.getElem_toArray, List.getElem_cons_succ, List.getElem_cons_zero]
                        refine wpAnyH_take (i := 30) (v := undef) rfl (by kernel_rfl) (by kernel_rfl) (by kernel_rfl) (fun _ _ _ h => h) (Or.inr ⟨by rfl, rfl⟩) (by assumption) ?_
                        try simp only [Act.put, List.setIfInBounds_toArray, List.set_cons_zero, List.set_cons_succ, List.getElem_toArray, List.getElem_cons_succ, List.getElem_cons_zero]
                        refine wpAnyH_take (i := 31) (v := undef) rfl (by kernel_rfl) (by kernel_rfl) (by kernel_rfl) (fun _ _ _ h => h) (Or.inr ⟨by rfl, rfl⟩) (by assumption) ?_
                        try simp only [Act.put, List.setIfInBounds_toArray, List.set_cons_zero, List.set_cons_succ, List.getElem_toArray, List.getElem_cons_succ, List.getElem_cons_zero]
                        refine wpAnyH_take (i := 32) (v := undef) rfl (by kernel_rfl) (by kernel_rfl) (by kernel_rfl) (fun _ _ _ h => h) (Or.inr ⟨by rfl, rfl⟩) (by assumption) ?_
                        try simp only [Act.put, List.setIfInBounds_toArray, List.set_cons_zero, List.set_cons_succ, List.getElem_toArray, List.getElem_cons_succ, List.getElem_cons_zero]
                        refine wpAnyH_take (i := 33) (v := undef) rfl (by kernel_rfl) (by kernel_rfl) (by kernel_rfl) (fun _ _ _ h => h) (Or.inr ⟨by rfl, rfl⟩) (by assumption) ?_
                        try simp only [Act.put, List.setIfInBounds_toArray, List.set_cons_zero, List.set_cons_succ, List.getElem_toArray, List.getElem_cons_succ, List.getElem_cons_zero]
                        refine wpAnyH_take (i := 34) (v := undef) rfl (by kernel_rfl) (by kernel_rfl) (by kernel_rfl) (fun _ _ _ h => h) (Or.inr ⟨by rfl, rfl⟩) (by assumption) ?_
                        try simp only [Act.put, List.setIfInBounds_toArray, List.set_cons_zero, List.set_cons_succ, List.getElem_toArray, List.getElem_cons_succ, List.getElem_cons_zero]
                        refine wpAnyH_take (i := 35) (v := undef) rfl (by kernel_rfl) (by kernel_rfl) (by kernel_rfl) (fun _ _ _ h => h) (Or.inr ⟨by rfl, rfl⟩) (by assumption) ?_
                        try simp only [Act.put, List.setIfInBounds_toArray, List.set_cons_zero, List.set_cons_succ, List.getElem_toArray, List.getElem_cons_succ, List.getElem_cons_zero]
                        refine wpAnyH_take (i := 36) (v := undef) rfl (by kernel_rfl) (by kernel_rfl) (by kernel_rfl) (fun _ _ _ h => h) (Or.inr ⟨by rfl, rfl⟩) (by assumption) ?_
                        try simp only [Act.put, List.setIfInBounds_toArray, List.set_cons_zero, List.set_cons_succ, List.getElem_toArray, List.getElem_cons_succ, List.getElem_cons_zero]
                        refine wpAnyH_take (i := 37) (v := undef) rfl (by kernel_rfl) (by kernel_rfl) (by kernel_rfl) (fun _ _ _ h => h) (Or.inr ⟨by rfl, rfl⟩) (by assumption) ?_
                        try simp only [Act.put, List.setIfInBounds_toArray, List.set_cons_zero, List.set_cons_succ, List.getElem_toArray, List.getElem_cons_succ, List.getElem_cons_zero]
                        refine wpAnyH_take (i := 38) (v := ?_) rfl (by kernel_rfl) (by kernel_rfl) (by kernel_rfl) (fun _ _ _ h => h) (Or.inl ⟨by rfl, ?_⟩) (by assumption) ?_
                        rotate_left
                        · intro X9 hSw; (try dsimp only at hSw); obtain ⟨hs1, hs2⟩ := hSw; (try simp only [List.getElem_toArray, List.getElem_cons_succ, List.getElem_cons_zero]); first | (go_simp; done) | (go_simp; with_reducible rfl)
                        try simp only [Act.put, List.setIfInBounds_toArray, List.set_cons_zero, List.set_cons_succ, List.getElem_toArray, List.getElem_cons_succ, List.getElem_cons_zero]
                        refine wpAnyH_take (i := 39) (v := ?_) rfl (by kernel_rfl) (by kernel_rfl) (by kernel_rfl) (fun _ _ _ h => h) (Or.inl ⟨by rfl, ?_⟩) (by assumption) ?_
                        rotate_left
                        · intro X9 hSw; (try dsimp only at hSw); obtain ⟨hs1, hs2⟩ := hSw; (try simp only [List.getElem_toArray, List.getElem_cons_succ, List.getElem_cons_zero]); first | (go_simp; done) | (go_simp; with_reducible rfl)
                        try simp only [Act.put, List.setIfInBounds_toArray, List.set_cons_zero, List.set_cons_succ, List.getElem_toArray, List.getElem_cons_succ, List.getElem_cons_zero]
                        refine wpAnyH_done (by kernel_rfl) ?_ _
                        have HB9 := Lib.hid hbw
                        clear hbw hcw hd0 hs0
                        go_wp2
                        go_roundw
                        case rel => exact ⟨j + 1, hjq, by go_num, HNL.out.bnew HB9.out, (HB9.out.block b0 hb0r).trans HX.out, HBL.out.trans (HB9.out.mono HBL.out.size)⟩
                        case measure => simp [intOf]; omega
                    · as_aux_lemma =>
                        go_wp2
                        refine wp_region_held_drew (S := fun W => W.cell? ⟨b0, 1, none⟩ = some (.slice (some ad) q tc) ∧ W.cell? (ad.add j) = some (.string s) ∧ W.cell? ⟨bo, 0, none⟩ = some (.pointer (some ⟨co, 0, none⟩))) (by kernel_rfl) (show (wr.drew).cell? _ = _ ∧ (wr.drew).cell? _ = _ ∧ (wr.drew).cell? _ = _ from hs0) (fun hHeld => ?_)
                        refine wpAnyH_take (i := 0) (v := ?_) rfl (by kernel_rfl) (by kernel_rfl) (by kernel_rfl) (fun _ _ _ h => h) (Or.inl ⟨by rfl, ?_⟩) (by assumption) ?_
                        rotate_left
                        · intro X9 hSw; (try dsimp only at hSw); obtain ⟨hs1, hs2⟩ := hSw; (try simp only [List.getElem_toArray, List.getElem_cons_zero]); first | (go_simp; done) | (go_simp; with_reducible rfl)
                        try simp only [Act.put, List.setIfInBounds_toArray, List.set_cons_zero, List.set_cons_succ, List.getElem_toArray, List.getElem_cons_zero]
                        refine wpAnyH_take (i := 1) (v := ?_) rfl (by kernel_rfl) (by kernel_rfl) (by kernel_rfl) (fun _ _ _ h => h) (Or.inl ⟨by rfl, ?_⟩) (by assumption) ?_
                        rotate_left
                        · intro X9 hSw; (try dsimp only at hSw); obtain ⟨hs1, hs2⟩ := hSw; (try simp only [List.getElem_toArray, List.getElem_cons_succ, List.getElem_cons_zero]); first | (go_simp; done) | (go_simp; with_reducible rfl)
                        try simp only [Act.put, List.setIfInBounds_toArray, List.set_cons_zero, List.set_cons_succ, List.getElem_toArray, List.getElem_cons_succ, List.getElem_cons_zero]
                        refine wpAnyH_take (i := 2) (v := ?_) rfl (by kernel_rfl) (by kernel_rfl) (by kernel_rfl) (fun _ _ _ h => h) (Or.inl ⟨by rfl, ?_⟩) (by assumption) ?_
                        rotate_left
                        · intro X9 hSw; (try dsimp only at hSw); obtain ⟨hs1, hs2⟩ := hSw; (try simp only [List.getElem_toArray, List.getElem_cons_succ, List.getElem_cons_zero]); first | (go_simp; done) | (go_simp; with_reducible rfl)
                        try simp only [Act.put, List.setIfInBounds_toArray, List.set_cons_zero, List.set_cons_succ, List.getElem_toArray, List.getElem_cons_succ, List.getElem_cons_zero]
                        refine wpAnyH_take (i := 3) (v := ?_) rfl (by kernel_rfl) (by kernel_rfl) (by kernel_rfl) (fun _ _ _ h => h) (Or.inl ⟨by rfl, ?_⟩) (by assumption) ?_
                        rotate_left
                        · intro X9 hSw; (try dsimp only at hSw); obtain ⟨hs1, hs2⟩ := hSw; (try simp only [List.getElem_toArray, List.getElem_cons_succ, List.getElem_cons_zero]); first | (go_simp; done) | (go_simp; with_reducible rfl)
                        try simp only [Act.put, List.setIfInBounds_toArray, List.set_cons_zero, List.set_cons_succ, List.getElem_toArray, List.getElem_cons_succ, List.getElem_cons_zero]
                        refine wpAnyH_take (i := 4) (v := ?_) rfl (by kernel_rfl) (by kernel_rfl) (by kernel_rfl) (fun _ _ _ h => h) (Or.inl ⟨by rfl, ?_⟩) (by assumption) ?_
                        rotate_left
                        · intro X9 hSw; (try dsimp only at hSw); obtain ⟨hs1, hs2⟩ := hSw; (try simp only [List.getElem_toArray, List.getElem_cons_succ, List.getElem_cons_zero]); first | (go_simp; done) | (go_simp; with_reducible rfl)
                        try simp only [Act.put, List.setIfInBounds_toArray, List.set_cons_zero, List.set_cons_succ, List.getElem_toArray, List.getElem_cons_succ, List.getElem_cons_zero]
                        refine wpAnyH_take (i := 5) (v := ?_) rfl (by kernel_rfl) (by kernel_rfl) (by kernel_rfl) (fun _ _ _ h => h) (Or.inl ⟨by rfl, ?_⟩) (by assumption) ?_
                        rotate_left
                        · intro X9 hSw; (try dsimp only at hSw); obtain ⟨hs1, hs2⟩ := hSw; (try simp only [List.getElem_toArray, List.getElem_cons_succ, List.getElem_cons_zero]); first | (go_simp; done) | (go_simp; with_reducible rfl)
                        try simp only [Act.put, List.setIfInBounds_toArray, List.set_cons_zero, List.set_cons_succ, List.getElem_toArray, List.getElem_cons_succ, List.getElem_cons_zero]
                        refine wpAnyH_take (i := 7) (v := ?_) rfl (by kernel_rfl) (by kernel_rfl) (by kernel_rfl) (fun _ _ _ h => h) (Or.inl ⟨by rfl, ?_⟩) (by assumption) ?_
                        rotate_left
                        · intro X9 hSw; (try dsimp only at hSw); obtain ⟨hs1, hs2⟩ := hSw; (try simp only [List.getElem_toArray, List.getElem_cons_succ, List.getElem_cons_zero]); first | (go_simp; done) | (go_simp; with_reducible rfl)
                        try simp only [Act.put, List.setIfInBounds_toArray, List.set_cons_zero, List.set_cons_succ, List.getElem_toArray, List.getElem_cons_succ, List.getElem_cons_zero]
                        refine wpAnyH_take (i := 8) (v := ?_) rfl (by kernel_rfl) (by kernel_rfl) (by kernel_rfl) (fun _ _ _ h => h) (Or.inl ⟨by rfl, ?_⟩) (by assumption) ?_
                        rotate_left
                        · intro X9 hSw; (try dsimp only at hSw); obtain ⟨hs1, hs2⟩ := hSw; (try simp only [List.getElem_toArray, List.getElem_cons_succ, List.getElem_cons_zero]); first | (go_simp; done) | (go_simp; with_reducible rfl)
                        try simp only [Act.put, List.setIfInBounds_toArray, List.set_cons_zero, List.set_cons_succ, List.getElem_toArray, List.getElem_cons_succ, List.getElem_cons_zero]
                        refine wpAnyH_take (i := 9) (v := ?_) rfl (by kernel_rfl) (by kernel_rfl) (by kernel_rfl) (fun _ _ _ h => h) (Or.inl ⟨by rfl, ?_⟩) (by assumption) ?_
                        rotate_left
                        · intro X9 hSw; (try dsimp only at hSw); obtain ⟨hs1, hs2⟩ := hSw; (try simp only [List.getElem_toArray, List.getElem_cons_succ, List.getElem_cons_zero]); first | (go_simp; done) | (go_simp; with_reducible rfl)
                        try simp only [Act.put, List.setIfInBounds_toArray, List.set_cons_zero, List.set_cons_succ, List.getElem_toArray, List.getElem_cons_succ, List.getElem_cons_zero]
                        refine wpAnyH_take (i := 10) (v := ?_) rfl (by kernel_rfl) (by kernel_rfl) (by kernel_rfl) (fun _ _ _ h => h) (Or.inl ⟨by rfl, ?_⟩) (by assumption) ?_
                        rotate_left
                        · intro X9 hSw; (try dsimp only at hSw); obtain ⟨hs1, hs2⟩ := hSw; (try simp only [List.getElem_toArray, List.getElem_cons_succ, List.getElem_cons_zero]); first | (go_simp; done) | (go_simp; with_reducible rfl)
                        try simp only [Act.put, List.setIfInBounds_toArray, List.set_cons_zero, List.set_cons_succ, List.getElem_toArray, List.getElem_cons_succ, List.getElem_cons_zero]
                        refine wpAnyH_take (i := 11) (v := ?_) rfl (by kernel_rfl) (by kernel_rfl) (by kernel_rfl) (fun _ _ _ h => h) (Or.inl ⟨by rfl, ?_⟩) (by assumption) ?_
                        rotate_left
                        · intro X9 hSw; (try dsimp only at hSw); obtain ⟨hs1, hs2⟩ := hSw; (try simp only [List.getElem_toArray, List.getElem_cons_succ, List.getElem_cons_zero]); first | (go_simp; done) | (go_simp; with_reducible rfl)
                        try simp only [Act.put, List.setIfInBounds_toArray, List.set_cons_zero, List.set_cons_succ, List.getElem_toArray, List.getElem_cons_succ, List.getElem_cons_zero]
                        refine wpAnyH_take (i := 12) (v := ?_) rfl (by kernel_rfl) (by kernel_rfl) (by kernel_rfl) (fun _ _ _ h => h) (Or.inl ⟨by rfl, ?_⟩) (by assumption) ?_
                        rotate_left
                        · intro X9 hSw; (try dsimp only at hSw); obtain ⟨hs1, hs2⟩ := hSw; (try simp only [List.getElem_toArray, List.getElem_cons_succ, List.getElem_cons_zero]); first | (go_simp; done) | (go_simp; with_reducible rfl)
                        try simp only [Act.put, List.setIfInBounds_toArray, List.set_cons_zero, List.set_cons_succ, List.getElem_toArray, List.getElem_cons_succ, List.getElem_cons_zero]
                        refine wpAnyH_ready (rs := [6]) (by kernel_rfl) (by simp) (AllReadyH.cons rfl (fun K hK => ?_) (AllReadyH.nil))
                        try simp only [List.getElem_toArray, List.getElem_cons_succ, List.getElem_cons_zero]
                        go_simp
                        refine (CH.out _ hd0).mono ?_
                        rintro e w2 ⟨rfl, hbw, hcw⟩
                        refine hK.out _ _ (hcw) (fun hHeld => ?_)
                        clear hK K
                        try simp only [Act.put, List.setIfInBounds_toArray, List.set_cons_zero, List.set_cons_succ, List.getElem_toArray, List.getElem_cons_succ, List.getElem_cons_zero]
                        refine wpAnyH_ready (rs := [13]) (by kernel_rfl) (by simp) (AllReadyH.cons rfl (fun K hK => ?_) (AllReadyH.nil))
                        try simp only [List.getElem_toArray, List.getElem_cons_succ, List.getElem_cons_zero]
                        go_simp
                        refine (CH2.out _ hbw).mono ?_
                        rintro e w3 ⟨rfl, rfl⟩
                        refine hK.out _ _ (hcw) (fun hHeld => ?_)
                        clear hK K
                        try simp only [Act.put, List.setIfInBounds_toArray, List.set_cons_zero, List.set_cons_succ, List.getElem_toArray, List.getElem_cons_succ, List.getElem_cons_zero]
                        refine wpAnyH_take (i := 14) (v := ?_) rfl (by kernel_rfl) (by kernel_rfl) (by kernel_rfl) (fun _ _ _ h => h) (Or.inl ⟨by rfl, ?_⟩) (by assumption) ?_
                        rotate_left
                        · intro X9 hSw; (try dsimp only at hSw); obtain ⟨hs1, hs2⟩ := hSw; (try simp only [List.getElem_toArray, List.getElem_cons_succ, List.getElem_cons_zero]); first | (go_simp; done) | (go_simp; with_reducible rfl)
                        try simp only [Act.put, List.setIfInBounds_toArray, List.set_cons_zero, List.set_cons_succ, List.getElem_toArray, List.getElem_cons_succ, List.getElem_cons_zero]
                        refine wpAnyH_take (i := 15) (v := ?_) rfl (by kernel_rfl) (by kernel_rfl) (by kernel_rfl) (fun _ _ _ h => h) (Or.inl ⟨by rfl, ?_⟩) (by assumption) ?_
                        rotate_left
                        · intro X9 hSw; (try dsimp only at hSw); obtain ⟨hs1, hs2⟩ := hSw; (try simp only [List.getElem_toArray, List.getElem_cons_succ, List.getElem_cons_zero]); first | (go_simp; done) | (go_simp; with_reducible rfl)
                        try simp only [Act.put, List.setIfInBounds_toArray, List.set_cons_zero, List.set_cons_succ, List.getElem_toArray, List.getElem_cons_succ, List.getElem_cons_zero]
                        refine wpAnyH_take (i := 16) (v := ?_) rfl (by kernel_rfl) (by kernel_rfl) (by kernel_rfl) (fun _ _ _ h => h) (Or.inl ⟨by rfl, ?_⟩) (by assumption) ?_
                        rotate_left
                        · intro X9 hSw; (try dsimp only at hSw); obtain ⟨hs1, hs2⟩ := hSw; (try simp only [List.getElem_toArray, List.getElem_cons_succ, List.getElem_cons_zero]); first | (go_simp; done) | (go_simp; with_reducible rfl)
                        try simp only [Act.put, List.setIfInBounds_toArray, List.set_cons_zero, List.set_cons_succ, List.getElem_toArray, List.getElem_cons_succ, List.getElem_cons_zero]
                        refine wpAnyH_take (i := 17) (v := ?_) rfl (by kernel_rfl) (by kernel_rfl) (by kernel_rfl) (fun _ _ _ h => h) (Or.inl ⟨by rfl, ?_⟩) (by assumption) ?_
                        rotate_left
                        · intro X9 hSw; (try dsimp only at hSw); obtain ⟨hs1, hs2⟩ := hSw; (try simp only [List.getElem_toArray, List.getElem_cons_succ, List.getElem_cons_zero]); first | (go_simp; done) | (go_simp; with_reducible rfl)
                        try simp only [Act.put, List.setIfInBounds_toArray, List.set_cons_zero, List.set_cons_succ, List.getElem_toArray, List.getElem_cons_succ, List.getElem_cons_zero]
                        refine wpAnyH_take (i := 18) (v := ?_) rfl (by kernel_rfl) (by kernel_rfl) (by kernel_rfl) (fun _ _ _ h => h) (Or.inl ⟨by rfl, ?_⟩) (by assumption) ?_
                        rotate_left
                        · intro X9 hSw; (try dsimp only at hSw); obtain ⟨hs1, hs2⟩ := hSw; (try simp only [List.getElem_toArray, List.getElem_cons_succ, List.getElem_cons_zero]); first | (go_simp; done) | (go_simp; with_reducible rfl)
                        try simp only [Act.put, List.setIfInBounds_toArray, List.set_cons_zero, List.set_cons_succ, List.getElem_toArray, List.getElem_cons_succ, List.getElem_cons_zero]
                        refine wpAnyH_take (i := 19) (v := ?_) rfl (by kernel_rfl) (by kernel_rfl) (by kernel_rfl) (fun _ _ _ h => h) (Or.inl ⟨by rfl, ?_⟩) (by assumption) ?_
                        rotate_left
                        · intro X9 hSw; (try dsimp only at hSw); obtain ⟨hs1, hs2⟩ := hSw; (try simp only [List.getElem_toArray, List.getElem_cons_succ, List.getElem_cons_zero]); first | (go_simp; done) | (go_simp; with_reducible rfl)
                        try simp only [Act.put, List.setIfInBounds_toArray, List.set_cons_zero, List.set_cons_succ, List.getElem_toArray, List.getElem_cons_succ, List.getElem_cons_zero]
                        refine wpAnyH_take (i := 20) (v := ?_) rfl (by kernel_rfl) (by kernel_rfl) (by kernel_rfl) (fun _ _ _ h => h) (Or.inl ⟨by rfl, ?_⟩) (by assumption) ?_
                        rotate_left
                        · intro X9 hSw; (try dsimp only at hSw); obtain ⟨hs1, hs2⟩ := hSw; (try simp only [List.getElem_toArray, List.getElem_cons_succ, List.getElem_cons_zero]); first | (go_simp; done) | (go_simp; with_reducible rfl)
                        try simp only [Act.put, List.setIfInBounds_toArray, List.set_cons_zero, List.set_cons_succ, List.getElem_toArray, List.getElem_cons_succ, List.getElem_cons_zero]
                        refine wpAnyH_take (i := 21) (v := ?_) rfl (by kernel_rfl) (by kernel_rfl) (by kernel_rfl) (fun _ _ _ h => h) (Or.inl ⟨by rfl, ?_⟩) (by assumption) ?_
                        rotate_left
                        · intro X9 hSw; (try dsimp only at hSw); obtain ⟨hs1, hs2⟩ := hSw; (try simp only [List.getElem_toArray, List.getElem_cons_succ, List.getElem_cons_zero]); first | (go_simp; done) | (go_simp; with_reducible rfl)
                        try simp only [Act.put, List.setIfInBounds_toArray, List.set_cons_zero, List.set_cons_succ, List.getElem_toArray, List.getElem_cons_succ, List.getElem_cons_zero]
                        refine wpAnyH_take (i := 22) (v := undef) rfl (by kernel_rfl) (by kernel_rfl) (by kernel_rfl) (fun _ _ _ h => h) (Or.inr ⟨by rfl, rfl⟩) (by assumption) ?_
                        try simp only [Act.put, List.setIfInBounds_toArray, List.set_cons_zero, List.set_cons_succ, List.getElem_toArray, List.getElem_cons_succ, List.getElem_cons_zero]
                        refine wpAnyH_take (i := 23) (v := undef) rfl (by kernel_rfl) (by kernel_rfl) (by kernel_rfl) (fun _ _ _ h => h) (Or.inr ⟨by rfl, rfl⟩) (by assumption) ?_
                        try simp only [Act.put, List.setIfInBounds_toArray, List.set_cons_zero, List.set_cons_succ, List.getElem_toArray, List.getElem_cons_succ, List.getElem_cons_zero]
                        refine wpAnyH_take (i := 24) (v := undef) rfl (by kernel_rfl) (by kernel_rfl) (by kernel_rfl) (fun _ _ _ h => h) (Or.inr ⟨by rfl, rfl⟩) (by assumption) ?_
                        try simp only [Act.put, List.setIfInBounds_toArray, List.set_cons_zero, List.set_cons_succ, List.getElem_toArray, List.getElem_cons_succ, List.getElem_cons_zero]
                        refine wpAnyH_take (i := 25) (v := undef) rfl (by kernel_rfl) (by kernel_rfl) (by kernel_rfl) (fun _ _ _ h => h) (Or.inr ⟨by rfl, rfl⟩) (by assumption) ?_
                        try simp only [Act.put, List.setIfInBounds_toArray, List.set_cons_zero, List.set_cons_succ, List.getElem_toArray, List.getElem_cons_succ, List.getElem_cons_zero]
                        refine wpAnyH_take (i := 26) (v := undef) rfl (by kernel_rfl) (by kernel_rfl) (by kernel_rfl) (fun _ _ _ h => h) (Or.inr ⟨by rfl, rfl⟩) (by assumption) ?_
                        try simp only [Act.put, List.setIfInBounds_toArray, List.set_cons_zero, List.set_cons_succ, List.getElem_toArray, List.getElem_cons_succ, List.getElem_cons_zero]
                        refine wpAnyH_take (i := 27) (v := undef) rfl (by kernel_rfl) (by kernel_rfl) (by kernel_rfl) (fun _ _ _ h => h) (Or.inr ⟨by rfl, rfl⟩) (by assumption) ?_
                        try simp only [Act.put, List.setIfInBounds_toArray, List.set_cons_zero, List.set_cons_succ, List.getElem_toArray, List.getElem_cons_succ, List.getElem_cons_zero]
                        refine wpAnyH_take (i := 28) (v := undef) rfl (by kernel_rfl) (by kernel_rfl) (by kernel_rfl) (fun _ _ _ h => h) (Or.inr ⟨by rfl, rfl⟩) (by assumption) ?_
                        try simp only [Act.put, List.setIfInBounds_toArray, List.set_cons_zero, List.set_cons_succ, List.getElem_toArray, List.getElem_cons_succ, List.getElem_cons_zero]
                        refine wpAnyH_take (i := 29) (v := undef) rfl (by kernel_rfl) (by kernel_rfl) (by kernel_rfl) (fun _ _ _ h => h) (Or.inr ⟨by rfl, rfl⟩) (by assumption) ?_
                        try simp only [Act.put, List.setIfInBounds_toArray, List.set_cons_zero, List.set_cons_succ, List.getElem_toArray, List.getElem_cons_succ, List.getElem_cons_zero]
                        refine wpAnyH_take (i := 30) (v := undef) rfl (by kernel_rfl) (by kernel_rfl) (by kernel_rfl) (fun _ _ _ h => h) (Or.inr ⟨by rfl, rfl⟩) (by assumption) ?_
                        try simp only [Act.put, List.setIfInBounds_toArray, List.set_cons_zero, List.set_cons_succ, List.getElem_toArray, List.getElem_cons_succ, List.getElem_cons_zero]
                        refine wpAnyH_take (i := 31) (v := undef) rfl (by kernel_rfl) (by kernel_rfl) (by kernel_rfl) (fun _ _ _ h => h) (Or.inr ⟨by rfl, rfl⟩) (by assumption) ?_
                        try simp only [Act.put, List.setIfInBounds_toArray, List.set_cons_zero, List.set_cons_succ, List.getElem_toArray, List.getElem_cons_succ, List.getElem_cons_zero]
                        refine wpAnyH_take (i := 32) (v := undef) rfl (by kernel_rfl) (by kernel_rfl) (by kernel_rfl) (fun _ _ _ h => h) (Or.inr ⟨by rfl, rfl⟩) (by assumption) ?_
                        try simp only [Act.put, List.setIfInBounds_toArray, List.set_cons_zero, List.set_cons_succ, List.getElem_toArray, List.getElem_cons_succ, List.getElem_cons_zero]
                        refine wpAnyH_take (i := 33) (v := undef) rfl (by kernel_rfl) (by kernel_rfl) (by kernel_rfl) (fun _ _ _ h => h) (Or.inr ⟨by rfl, rfl⟩) (by assumption) ?_
                        try simp only [Act.put, List.setIfInBounds_toArray, List.set_cons_zero, List.set_cons_succ, List.getElem_toArray, List.getElem_cons_succ, List.getElem_cons_zero]
                        refine wpAnyH_take (i := 34) (v := undef) rfl (by kernel_rfl) (by kernel_rfl) (by kernel_rfl) (fun _ _ _ h => h) (Or.inr ⟨by rfl, rfl⟩) (by assumption) ?_
                        try simp only [Act.put, List.setIfInBounds_toArray, List.set_cons_zero, List.set_cons_succ, List.getElem_toArray, List.getElem_cons_succ, List.getElem_cons_zero]
                        refine wpAnyH_take (i := 35) (v := undef) rfl (by kernel_rfl) (by kernel_rfl) (by kernel_rfl) (fun _ _ _ h => h) (Or.inr ⟨by rfl, rfl⟩) (by assumption) ?_
                        try simp only [Act.put, List.setIfInBounds_toArray, List.set_cons_zero, List.set_cons_succ, List.getElem_toArray, List.getElem_cons_succ, List.getElem_cons_zero]
                        refine wpAnyH_take (i := 36) (v := undef) rfl (by kernel_rfl) (by kernel_rfl) (by kernel_rfl) (fun _ _ _ h => h) (Or.inr ⟨by rfl, rfl⟩) (by assumption) ?_
                        try simp only [Act.put, List.setIfInBounds_toArray, List.set_cons_zero, List.set_cons_succ, List.getElem_toArray, List.getElem_cons_succ, List.getElem_cons_zero]
                        refine wpAnyH_take (i := 37) (v := undef) rfl (by kernel_rfl) (by kernel_rfl) (by kernel_rfl) (fun _ _ _ h => h) (Or.inr ⟨by rfl, rfl⟩) (by assumption) ?_
                        try simp only [Act.put, List.setIfInBounds_toArray, List.set_cons_zero, List.set_cons_succ, List.getElem_toArray, List.getElem_cons_succ, List.getElem_cons_zero]
                        refine wpAnyH_take (i := 38) (v := ?_) rfl (by kernel_rfl) (by kernel_rfl) (by kernel_rfl) (fun _ _ _ h => h) (Or.inl ⟨by rfl, ?_⟩) (by assumption) ?_
                        rotate_left
                        · intro X9 hSw; (try dsimp only at hSw); obtain ⟨hs1, hs2⟩ := hSw; (try simp only [List.getElem_toArray, List.getElem_cons_succ, List.getElem_cons_zero]); first | (go_simp; done) | (go_simp; with_reducible rfl)
                        try simp only [Act.put, List.setIfInBounds_toArray, List.set_cons_zero, List.set_cons_succ, List.getElem_toArray, List.getElem_cons_succ, List.getElem_cons_zero]
                        refine wpAnyH_take (i := 39) (v := ?_) rfl (by kernel_rfl) (by kernel_rfl) (by kernel_rfl) (fun _ _ _ h => h) (Or.inl ⟨by rfl, ?_⟩) (by assumption) ?_
                        rotate_left
                        · intro X9 hSw; (try dsimp only at hSw); obtain ⟨hs1, hs2⟩ := hSw; (try simp only [List.getElem_toArray, List.getElem_cons_succ, List.getElem_cons_zero]); first | (go_simp; done) | (go_simp; with_reducible rfl)
                        try simp only [Act.put, List.setIfInBounds_toArray, List.set_cons_zero, List.set_cons_succ, List.getElem_toArray, List.getElem_cons_succ, List.getElem_cons_zero]
                        refine wpAnyH_done (by kernel_rfl) ?_ _
                        have HB9 := Lib.hid hbw
                        clear hbw hcw hd0 hs0
                        go_wp2
                        go_roundw
                        case rel => exact ⟨j + 1, hjq, by go_num, HNL.out.bnew HB9.out, (HB9.out.block b0 hb0r).trans HX.out, HBL.out.trans (HB9.out.mono HBL.out.size)⟩
                        case measure => simp [intOf]; omega
              · as_aux_lemma =>
                  have ql := listF c1 S' D' HNL.out.good (by rw [HSD.out]; omega) wr HNL.out.set
                  rw [HNL.out.len] at ql
                  go_wp2_with fail
                  clear x1
                  refine ql.mono ?_
                  rintro e w3' ⟨v3, rfl, ho3, hb3⟩
                  obtain ⟨A3, c3, rfl, hc3⟩ := own_form ho3
                  have HN3 := Lib.hid (HNL.out.bnew hb3)
                  have HV3 : Hid (∀ b, (Value.slice A3 p' c3).ownBlock = some b → wr.heap.size ≤ b) := fun b hb => (ho3.lt b hb).1
                  have HO3 := Lib.hid (own_base0 ho3)
                  have HB3 := Lib.hid hb3
                  have hz3 := hb3.size
                  have hvb : ∀ b, (Value.slice A3 p' c3).ownBlock = some b → b ∉ bkBlocks g tv wv L := fun b hb e => by
                    have h1 := HV3.out b hb
                    have h2 := HNL.out.book.there b e
                    omega
                  have HT9 : Hid (Calls Tryz.prog 12 #[.pointer (some ⟨g, 0, none⟩), .slice A3 p' c3] w3' fun e w' => e = .returned (.tuple #[]) ∧ ∃ tv' wv' mv, BkAt g tv' wv' (L ++ [⟨.slice A3 p' c3, lstS D', mv, lstS D'⟩]) w' ∧ Mv ((Value.slice A3 p' c3).ownBlock.toList ++ bkBlocks g tv wv L) (bkBlocks g tv' wv' (L ++ [⟨.slice A3 p' c3, lstS D', mv, lstS D'⟩])) w3' w') := by
                    have := texts_add g tv wv L w3' HN3.out.book hL9 (.slice A3 p' c3) (lstS D') (by rw [HN3.out.len]; exact HO3.out) (by rw [HN3.out.len]; omega) hvb
                    exact this
                  clear ho3 hb3 hvb ql
                  go_wp2_with fail
                  refine HT9.out.mono ?_
                  rintro e w4' ⟨rfl, tv', wv', mv, hk4, hm4⟩
                  have HN4 : Hid (NsAt w co bo ow g c1 S' D' (.slice A' p' cn') p' tv' wv' (L ++ [⟨.slice A3 p' c3, lstS D', mv, lstS D'⟩]) w4') := HNL.out.kept HB3.out HV3.out hk4 hm4 (by rw [HN3.out.len]; omega)
                  clear hk4 hm4 HT9 HO3
                  have hrow := (HN4.out.book.rows ⟨.slice A3 p' c3, lstS D', mv, lstS D'⟩ (by simp)).v
                  have hrow2 : w4'.ownsRow 0 9 1 (.slice A3 p' c3) p' (strs (lstS D')) := by
                    have := hrow
                    rw [show (⟨.slice A3 p' c3, lstS D', mv, lstS D'⟩ : TRow).ss.length = p' from HN4.out.len] at this
                    exact this
                  have qm := same_self (lstS D') A3 A' c3 cn' p' w4'.heap.size w4'.heap.size HN4.out.len w4' (Reads.of_own hrow2) (Reads.of_own HN4.out.now) (Nat.le_refl _) (Nat.le_refl _) (by omega)
                  clear hrow hrow2
                  go_wp2_with fail
                  refine qm.mono ?_
                  rintro e w5' ⟨rfl, hb5⟩
                  have HN5 := Lib.hid (HN4.out.bnew hb5)
                  clear hb5 qm HN4
                  have qn := lenF c1 S' D' w5' HN5.out.set
                  rw [HSD.out] at qn
                  go_wp2_with fail
                  refine qn.mono ?_
                  rintro e w' ⟨rfl, rfl⟩
                  clear qn
                  go_wp2
                  go_roundw
                  case rel => exact ⟨k2 + 1, S', D', p', A', cn', tv', wv', _, hlt2, by go_num, rfl, hpc', hp9, by rw [List.length_append, hLk]; rfl, HN5.out⟩
                  case measure => simp [intOf]; omega
        · have hkN : k2 = N := by omega
          go_wp2_with fail
          refine (alive2_any _).mono ?_
          rintro e W3 ⟨rfl, hb3⟩
          have HN3 := Lib.hid (HNS.out.bnew hb3)
          clear hb3
          go_wp2_with fail
          refine (apart_any g tv wv L W3 HN3.out.book (fun r hr => (HN3.out.rows r hr).1) (fun r hr => (HN3.out.rows r hr).2)).mono ?_
          rintro e W4 ⟨rfl, hm4⟩
          have HM4 := Lib.hid hm4
          clear hm4
          go_wp2
          go_ret
          exact ⟨rfl, HN3.out.below.trans (HM4.out.below HN3.out.lowB HN3.out.below.size)⟩
end Go.Proofs.YtlniafpbkhkkaaaGreat
