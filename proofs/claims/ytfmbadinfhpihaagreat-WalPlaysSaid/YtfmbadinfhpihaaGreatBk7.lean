/-
  The book with lists of texts: growTexts as a contract.
  Conditions: lists that nobody else holds, each marked with its own marks.
-/
import Derived.Test.YtfmbadinfhpihaaGreatBk3
set_option linter.unusedVariables false
set_option linter.unusedSimpArgs false
namespace Go.Proofs.YtfmbadinfhpihaaGreat.Bk
open Go.RowKit
attribute [local go_sem ↓] Go.wp_at_zero Go.wp_at_succ
set_option maxRecDepth 100000

def markR (i : Nat) (r : TRow) : TRow := ⟨r.v, marks i 0 r.ss.length, r.m, r.mm⟩
def markN (j : Nat) (L : List TRow) : List TRow := L.mapIdx fun i r => if i < j then markR i r else r
theorem markN_len (j : Nat) (L : List TRow) : (markN j L).length = L.length := by simp [markN]
theorem markN_get (j : Nat) (L : List TRow) (k : Nat) : (markN j L)[k]? = L[k]?.map fun r => if k < j then markR k r else r := by
  unfold markN
  rw [List.getElem?_mapIdx]
theorem markN_zero (L : List TRow) : markN 0 L = L := by
  apply List.ext_getElem?
  intro k
  rw [markN_get]
  cases L[k]? <;> simp
theorem markN_v (j : Nat) (L : List TRow) : (markN j L).map TRow.v = L.map TRow.v := by
  apply List.ext_getElem?
  intro k
  rw [List.getElem?_map, markN_get, List.getElem?_map]
  cases L[k]? with
  | none => rfl
  | some r =>
    simp only [Option.map_some]
    split <;> rfl
theorem markN_m (j : Nat) (L : List TRow) : (markN j L).map TRow.m = L.map TRow.m := by
  apply List.ext_getElem?
  intro k
  rw [List.getElem?_map, markN_get, List.getElem?_map]
  cases L[k]? with
  | none => rfl
  | some r =>
    simp only [Option.map_some]
    split <;> rfl
theorem rowBlocks_of {L L' : List TRow} (hv : L'.map TRow.v = L.map TRow.v) (hm : L'.map TRow.m = L.map TRow.m) : rowBlocks L' = rowBlocks L := by
  induction L generalizing L' with
  | nil =>
    have : L' = [] := by simpa using hv
    rw [this]
  | cons r L ih =>
    cases L' with
    | nil => simp at hv
    | cons r' L' =>
      simp only [List.map_cons, List.cons.injEq] at hv hm
      have := ih hv.2 hm.2
      unfold rowBlocks at this ⊢
      rw [List.flatMap_cons, List.flatMap_cons, this]
      unfold TRow.blocks
      rw [hv.1, hm.1]
theorem markN_blocks (j : Nat) (L : List TRow) : rowBlocks (markN j L) = rowBlocks L := rowBlocks_of (markN_v j L) (markN_m j L)
theorem bkBlocks_mark (g : Nat) (tv wv : Value) (j : Nat) (L : List TRow) : bkBlocks g tv wv (markN j L) = bkBlocks g tv wv L := by unfold bkBlocks; rw [markN_blocks]
/-- A list's block is in no other row. -/
theorem nodup_block {L : List TRow} (hn : (rowBlocks L).Nodup) : ∀ {i k : Nat} {r r' : TRow}, L[i]? = some r → L[k]? = some r' → ∀ {q : Nat}, r.v.ownBlock = some q → (r'.v.ownBlock = some q ∨ r'.m.ownBlock = some q) → i = k ∧ r'.m.ownBlock ≠ some q := by
  induction L with
  | nil => intro i k r r' hr; simp at hr
  | cons a L ih =>
    intro i k r r' hr hr' q hq hq'
    have e : rowBlocks (a :: L) = a.blocks ++ rowBlocks L := rfl
    rw [e, List.nodup_append] at hn
    obtain ⟨h1, h2, h3⟩ := hn
    have hin : ∀ {x : TRow}, x.v.ownBlock = some q ∨ x.m.ownBlock = some q → q ∈ x.blocks := by
      intro x hx
      unfold TRow.blocks
      rcases hx with h | h <;> simp [h]
    cases i with
    | zero =>
      obtain rfl : a = r := by simpa using hr
      cases k with
      | zero =>
        obtain rfl : a = r' := by simpa using hr'
        refine ⟨rfl, fun hm => ?_⟩
        unfold TRow.blocks at h1
        rw [hq, hm] at h1
        simp at h1
      | succ k =>
        have hr2 : L[k]? = some r' := by simpa using hr'
        exact absurd rfl (h3 q (hin (.inl hq)) q (mem_rowBlocks (List.mem_of_getElem? hr2) hq'))
    | succ i =>
      have hr1 : L[i]? = some r := by simpa using hr
      cases k with
      | zero =>
        obtain rfl : a = r' := by simpa using hr'
        exact absurd rfl (h3 q (hin hq') q (mem_rowBlocks (List.mem_of_getElem? hr1) (.inl hq)))
      | succ k =>
        have hr2 : L[k]? = some r' := by simpa using hr'
        obtain ⟨h4, h5⟩ := ih h2 hr1 hr2 hq hq'
        exact ⟨by omega, h5⟩
theorem set_map {f : TRow → Value} {L : List TRow} {i : Nat} {r r' : TRow} (hr : L[i]? = some r) (he : f r' = f r) : (L.set i r').map f = L.map f := by
  apply List.ext_getElem?
  intro k
  rw [List.getElem?_map, List.getElem?_map, List.getElem?_set]
  by_cases hik : i = k
  · subst hik
    rw [if_pos rfl, hr]
    have := (List.getElem?_eq_some_iff.1 hr).1
    simp [this, he]
  · rw [if_neg hik]
/-- A text stored into a kept list. -/
theorem BkAt.store {g : Nat} {tv wv : Value} {L : List TRow} {w : World} (h : BkAt g tv wv L w) {i : Nat} {r : TRow} (hr : L[i]? = some r) {q c : Nat} (hv : r.v = .slice (some ⟨q, 0, none⟩) r.ss.length c) (j : Nat) (x : ByteArray) :
    BkAt g tv wv (L.set i ⟨r.v, r.ss.set j x, r.m, r.mm⟩) (w.setCell ⟨q, j, none⟩ (.string x)) := by
  have hq : r.v.ownBlock = some q := by rw [hv]; rfl
  have hm := List.mem_of_getElem? hr
  have hin : q ∈ rowBlocks L := mem_rowBlocks hm (.inl hq)
  have fin : ∀ k, k ≠ q → (w.setCell ⟨q, j, none⟩ (.string x)).heap[k]? = w.heap[k]? := fun k hk => Below.heap_setCell _ _ _ _ hk
  have ev : (L.set i ⟨r.v, r.ss.set j x, r.m, r.mm⟩).map TRow.v = L.map TRow.v := set_map hr rfl
  have em : (L.set i ⟨r.v, r.ss.set j x, r.m, r.mm⟩).map TRow.m = L.map TRow.m := set_map hr rfl
  have hgq : g ≠ q := fun e => h.sep.gR (e ▸ hin)
  refine ⟨(fin g hgq).trans h.cells, ?_, ?_, ?_, by rw [List.length_set]; exact h.len, by rw [rowBlocks_of ev em]; exact h.sep⟩
  · rw [ev, List.length_set]
    exact own_keep' h.ot (fun k hk => fin k (fun e => h.sep.TR k hk (e ▸ hin)))
  · rw [em, List.length_set]
    exact own_keep' h.ow (fun k hk => fin k (fun e => h.sep.WR k hk (e ▸ hin)))
  · intro r' hr'
    obtain ⟨k, hk, e⟩ := List.getElem_of_mem hr'
    have hk' : (L.set i ⟨r.v, r.ss.set j x, r.m, r.mm⟩)[k]? = some r' := by rw [List.getElem?_eq_getElem hk, e]
    rw [List.getElem?_set] at hk'
    by_cases hik : i = k
    · subst hik
      have hil := (List.getElem?_eq_some_iff.1 hr).1
      simp only [if_true, hil] at hk'
      injection hk' with hk'
      subst hk'
      have h0 := h.rows r hm
      have hov := h0.v
      rw [hv] at hov
      have hmq := (nodup_block h.sep.nd hr hr hq (.inl hq)).2
      refine ⟨?_, own_keep' h0.m (fun k hk => fin k (fun e => hmq (e ▸ hk))), by rw [List.length_set]; exact h0.lv, h0.lm⟩
      have := (hov.stored j (.string x)).1
      show World.ownsRow _ _ _ _ r.v (r.ss.set j x).length (strs (r.ss.set j x))
      rw [hv, List.length_set]
      have es : strs (r.ss.set j x) = (strs r.ss).set j (.string x) := by unfold strs; rw [List.map_set]
      rw [es]
      exact this
    · rw [if_neg hik] at hk'
      have h0 := h.rows r' (List.mem_of_getElem? hk')
      refine ⟨own_keep' h0.v (fun k' hk2 => fin k' (fun e => hik (nodup_block h.sep.nd hr hk' hq (.inl (e ▸ hk2))).1)), own_keep' h0.m (fun k' hk2 => fin k' (fun e => hik (nodup_block h.sep.nd hr hk' hq (.inr (e ▸ hk2))).1)), h0.lv, h0.lm⟩
theorem Mv.then_below' {S S' : List Nat} {w w' w'' : World} (h : Mv S S' w w') (hb : Below w'.heap.size w' w'') : Mv S S' w w'' := h.trans (Mv.of_new hb fun _ h => .inl h)
theorem set_mid (a d : List ByteArray) (y x : ByteArray) : (a ++ y :: d).set a.length x = a ++ [x] ++ d := by
  rw [List.set_append_right _ _ (Nat.le_refl _), Nat.sub_self]
  simp
theorem marks_set (i jn : Nat) (ss : List ByteArray) (h : jn < ss.length) : (marks i 0 jn ++ ss.drop jn).set jn (nm i jn) = marks i 0 (jn + 1) ++ ss.drop (jn + 1) := by
  have h1 := drop_cons (List.getElem?_eq_getElem h)
  have h2 := set_mid (marks i 0 jn) (ss.drop (jn + 1)) ss[jn] (nm i jn)
  rw [marks_len] at h2
  rw [h1, h2, marks_succ, Nat.zero_add]
theorem markN_at (k : Nat) (L : List TRow) {r : TRow} (hr : L[k]? = some r) : (markN k L)[k]? = some r := by rw [markN_get, hr]; simp
theorem markN_step (k : Nat) (L : List TRow) {r : TRow} (hr : L[k]? = some r) : (markN k L).set k (markR k r) = markN (k + 1) L := by
  apply List.ext_getElem?
  intro j
  rw [List.getElem?_set, markN_get, markN_get]
  have hk := (List.getElem?_eq_some_iff.1 hr).1
  by_cases hj : k = j
  · subst hj
    rw [if_pos rfl, if_pos (by rw [markN_len]; exact hk), hr]
    simp
  · rw [if_neg hj]
    cases L[j]? with
    | none => rfl
    | some x =>
      simp only [Option.map_some]
      by_cases h1 : j < k
      · rw [if_pos h1, if_pos (by omega)]
      · rw [if_neg h1, if_neg (by omega)]
theorem set_same (k : Nat) (L : List TRow) {r : TRow} (hr : L[k]? = some r) : L.set k r = L := by
  apply List.ext_getElem?
  intro j
  rw [List.getElem?_set]
  by_cases hj : k = j
  · subst hj
    have hk := (List.getElem?_eq_some_iff.1 hr).1
    rw [if_pos rfl, if_pos hk, hr]
  · rw [if_neg hj]
set_option maxHeartbeats 8000000 in
theorem put_any (g : Nat) (tv wv : Value) (L : List TRow) (w : World) (h : BkAt g tv wv L w) :
    Calls Tryz.prog 97 #[.pointer (some ⟨g, 0, none⟩)] w fun e w' => e = .returned (.tuple #[]) ∧ BkAt g tv wv (markN L.length L) w' ∧ Mv (bkBlocks g tv wv L) (bkBlocks g tv wv L) w w' := by
  obtain ⟨A1, c1, rfl, hc1⟩ := own_form h.ot
  obtain ⟨n, hn⟩ : ∃ n, L.length = n := ⟨_, rfl⟩
  have hl := h.len
  rw [hn] at hl hc1 ⊢
  have H := Lib.hid h; have HN := Lib.hid hn
  clear h
  rw [hn] at H
  clear hn
  obtain ⟨S, hS⟩ : ∃ S, bkBlocks g (.slice A1 n c1) wv L = S := ⟨_, rfl⟩
  have HSS := Lib.hid hS
  have HLT : Hid (∀ k, k ∈ S → k < w.heap.size) := by show ∀ k, _ → _; rw [← hS]; exact H.out.there
  rw [hS]
  clear hS
  go_enter Tryz.func97, Tryz.ntmps97
  go_wp2
  go_loopw [2] (fun i wr => ∃ k : Nat, k ≤ n ∧ i = .int .i64 k ∧ Hid (BkAt g (.slice A1 n c1) wv (markN k L) wr) ∧ Hid (Mv S S w wr)) (fun i _ => n - (intOf i).toNat)
  case atStart => exact ⟨0, Nat.zero_le _, rfl, by show BkAt _ _ _ _ _; rw [markN_zero]; exact H.out, Mv.refl _ _⟩
  case round =>
    obtain ⟨k, hk, rfl, HB, HM⟩ := hrel
    have e0 : wr.cell? ⟨g, 0, none⟩ = some (.slice A1 n c1) := HB.out.cell rfl
    by_cases hlt : k < n
    · have hot := HB.out.ot
      rw [markN_v, markN_len, HN.out] at hot
      obtain ⟨q1, c1', r, e, hr, d0, hcc⟩ := row_at hot HN.out hlt
      injection e with ea _ ec
      subst ea ec
      have hrk := markN_at k L hr
      have hrow := HB.out.rows r (List.mem_of_getElem? hrk)
      have hov : wr.ownsRow 0 9 1 r.v r.ss.length (strs r.ss) := hrow.v
      have hlv := hrow.lv
      obtain ⟨A3, c3, hrv, hc3⟩ := own_form hov
      obtain ⟨m, hm⟩ : ∃ m, r.ss.length = m := ⟨_, rfl⟩
      rw [hm] at hlv hrv hc3
      rw [hrv] at d0
      have b1 : (0 : Int) ≤ (k : Int) := by omega
      have b2 : (k : Int) < (n : Int) := by omega
      have hq1 : q1 ∈ S := by rw [← HSS.out]; exact mem_bk.2 (.inr (.inl rfl))
      have hgS : g ∈ S := by rw [← HSS.out]; exact mem_bk.2 (.inl rfl)
      have HRK := Lib.hid hrk; have HRV := Lib.hid hrv; have HMM := Lib.hid hm; have HR := Lib.hid hr
      have qm := markTexts_any k 0 m (by omega) (by omega) (by omega) wr
      have hzr := HM.out.size
      clear hot hrow hov hrk hrv hm hr
      go_wp2_with fail
      refine qm.mono ?_
      rintro e w5 ⟨v5, rfl, ho5, hb5⟩
      obtain ⟨A5, c5, rfl, hc5⟩ := own_form ho5
      have HO5 := Lib.hid ho5
      have HM5 := Lib.hid (Mv.then_below' HM.out hb5)
      have HB5 : Hid (BkAt g (.slice (some ⟨q1, 0, none⟩) n c1) wv ((markN k L).set k ⟨r.v, marks k 0 0 ++ r.ss.drop 0, r.m, r.mm⟩) w5) := by
        show BkAt _ _ _ _ _
        have : (⟨r.v, marks k 0 0 ++ r.ss.drop 0, r.m, r.mm⟩ : TRow) = r := by simp [marks]
        rw [this, set_same k _ HRK.out]
        exact HB.out.below hb5
      have hz5 := hb5.size
      obtain ⟨wo, hwo⟩ : ∃ wo : World, wo = wr := ⟨_, rfl⟩
      subst hwo
      clear qm ho5 hb5 e0 d0
      go_wp2
      go_loopw [4] (fun j w6 => ∃ jn : Nat, jn ≤ m ∧ j = .int .i64 jn ∧ Hid (BkAt g (.slice (some ⟨q1, 0, none⟩) n c1) wv ((markN k L).set k ⟨r.v, marks k 0 jn ++ r.ss.drop jn, r.m, r.mm⟩) w6) ∧ Hid (Mv S S w w6) ∧ Hid (w6.ownsRow wo.heap.size 9 1 (.slice A5 m c5) m (strs (marks k 0 m)))) (fun j _ => m - (intOf j).toNat)
      case atStart => exact ⟨0, Nat.zero_le _, rfl, HB5.out, HM5.out, HO5.out⟩
      case round =>
        obtain ⟨jn, hjn, rfl, HB6, HM6, HO6⟩ := hrel
        by_cases hjlt : jn < m
        · have hrk6 : ((markN k L).set k ⟨r.v, marks k 0 jn ++ r.ss.drop jn, r.m, r.mm⟩)[k]? = some ⟨r.v, marks k 0 jn ++ r.ss.drop jn, r.m, r.mm⟩ := by
            rw [List.getElem?_set_self]
            rw [markN_len, HN.out]; exact hlt
          have hlen6 : (marks k 0 jn ++ r.ss.drop jn).length = m := by rw [List.length_append, marks_len, List.length_drop, HMM.out]; omega
          have hov6 : wr.ownsRow 0 9 1 r.v (marks k 0 jn ++ r.ss.drop jn).length (strs (marks k 0 jn ++ r.ss.drop jn)) := (HB6.out.rows _ (List.mem_of_getElem? hrk6)).v
          obtain ⟨q, cq, hvq, _, hqlt⟩ := hov6.form (by omega)
          rw [hlen6] at hvq
          have hA3 : A3 = some ⟨q, 0, none⟩ := by have := HRV.out; rw [hvq] at this; injection this with h1 _ _; exact h1.symm
          have hcq : cq = c3 := by have := HRV.out; rw [hvq] at this; injection this
          subst hA3 hcq
          rw [hvq, hlen6] at hov6
          obtain ⟨qm, cm, hvm, _, hmlt⟩ := HO6.out.form (show 0 < m by omega)
          injection hvm with hA5 _ hcm
          subst hA5 hcm
          have hdm := HO6.out.cellAt jn (by omega)
          rw [show (strs (marks k 0 m))[jn]? = some (.string (nm k jn)) by unfold strs marks; rw [List.getElem?_map, List.getElem?_map, List.getElem?_range hjlt]; simp] at hdm
          have hdq : ∃ y, wr.cell? ⟨q, jn, none⟩ = some (.string y) := by
            have h1 := hov6.cellAt jn (by omega)
            refine ⟨(marks k 0 jn ++ r.ss.drop jn)[jn]'(by omega), h1.trans ?_⟩
            unfold strs
            rw [List.getElem?_map, List.getElem?_eq_getElem (by omega)]
            rfl
          obtain ⟨y, hy⟩ := hdq
          have hfq := hov6.frozenAt jn
          have e06 : wr.cell? ⟨g, 0, none⟩ = some (.slice (some ⟨q1, 0, none⟩) n c1) := HB6.out.cell rfl
          have hot6 := HB6.out.ot
          have hmv6 : ((markN k L).set k ⟨r.v, marks k 0 jn ++ r.ss.drop jn, r.m, r.mm⟩).map TRow.v = L.map TRow.v := (set_map (f := TRow.v) (r' := ⟨r.v, marks k 0 jn ++ r.ss.drop jn, r.m, r.mm⟩) HRK.out rfl).trans (markN_v _ _)
          have hmm6 : ((markN k L).set k ⟨r.v, marks k 0 jn ++ r.ss.drop jn, r.m, r.mm⟩).map TRow.m = L.map TRow.m := (set_map (f := TRow.m) (r' := ⟨r.v, marks k 0 jn ++ r.ss.drop jn, r.m, r.mm⟩) HRK.out rfl).trans (markN_m _ _)
          rw [hmv6, List.length_set, markN_len, HN.out] at hot6
          obtain ⟨q1', c1', r6, e6, hr6, d06, _⟩ := row_at hot6 HN.out hlt
          injection e6 with ea6 _ ec6
          injection ea6 with ea6
          injection ea6 with ea6 _
          subst ea6 ec6
          have hr66 : r6 = r := by have := HR.out; rw [hr6] at this; injection this
          rw [hr66, HRV.out] at d06
          have hqS : q ∈ S := by rw [← HSS.out]; exact mem_bk.2 (.inr (.inr (.inr (mem_rowBlocks (List.mem_of_getElem? HR.out) (.inl (by rw [HRV.out]; rfl))))))
          have hqg : q ≠ g := fun e => HB6.out.sep.gR (by rw [rowBlocks_of hmv6 hmm6]; rw [← e]; exact mem_rowBlocks (List.mem_of_getElem? HR.out) (.inl (by rw [HRV.out]; rfl)))
          have hqq1 : q ≠ q1 := fun e => HB6.out.sep.TR q1 rfl (by rw [rowBlocks_of hmv6 hmm6]; rw [← e]; exact mem_rowBlocks (List.mem_of_getElem? HR.out) (.inl (by rw [HRV.out]; rfl)))
          have hqm : q ≠ qm := fun e => by
            have h1 := (HO6.out.lt qm rfl).1
            have h2 := HLT.out q hqS
            omega
          have b3 : (0 : Int) ≤ (jn : Int) := by omega
          have b4 : (jn : Int) < (m : Int) := by omega
          have HST := Lib.hid (HB6.out.store hrk6 (q := q) (c := cq) (by show r.v = .slice _ (marks k 0 jn ++ r.ss.drop jn).length _; rw [hlen6]; exact HRV.out) jn (nm k jn))
          have HM7 := Lib.hid (HM6.out.set_ hqS jn (.string (nm k jn)))
          have HO7 := Lib.hid (own_keep' (w' := wr.setCell ⟨q, jn, none⟩ (.string (nm k jn))) HO6.out (fun k' hk' => Below.heap_setCell _ _ _ _ (fun e => by have h1 := (HO6.out.lt k' hk').1; have h2 := HLT.out q hqS; have e' : k' = q := e; omega)))
          have HMS := Lib.hid (marks_set k jn r.ss (by rw [HMM.out]; exact hjlt))
          clear hrk6 hlen6 hov6 hvq hot6 hmv6 hr6 hr66 hqS HB6 HM6 HO6 hqlt hmlt
          go_wp2
          go_region_held3 (fun W => W.cell? ⟨g, 0, none⟩ = some (.slice (some ⟨q1, 0, none⟩) n c1) ∧ W.cell? ⟨q1, k, none⟩ = some (.slice (some ⟨q, 0, none⟩) m cq) ∧ W.cell? ⟨qm, jn, none⟩ = some (.string (nm k jn)))
            (first | exact ⟨e06, d06, hdm⟩ | exact ⟨(World.cell?_setCell_other _ _ _ _ (by simp)).trans e06, (World.cell?_setCell_other _ _ _ _ (by simp)).trans d06, (World.cell?_setCell_other _ _ _ _ (by simp)).trans hdm⟩)
            (fail)
          have HBN : Hid (BkAt g (.slice (some ⟨q1, 0, none⟩) n c1) wv ((markN k L).set k ⟨r.v, marks k 0 (jn + 1) ++ r.ss.drop (jn + 1), r.m, r.mm⟩) (wr.setCell ⟨q, jn, none⟩ (.string (nm k jn))).drew) := by
            show BkAt _ _ _ _ _
            have := HST.out
            rw [List.set_set, HMS.out] at this
            exact this.keep fun _ _ => rfl
          have HMN : Hid (Mv S S w (wr.setCell ⟨q, jn, none⟩ (.string (nm k jn))).drew) := Mv.then_below' HM7.out (Below.refl _ _).drew
          have HON : Hid ((wr.setCell ⟨q, jn, none⟩ (.string (nm k jn))).drew.ownsRow wo.heap.size 9 1 (.slice (some ⟨qm, 0, none⟩) m c5) m (strs (marks k 0 m))) := own_keep' HO7.out fun _ _ => rfl
          clear HST HM7 HO7 HMS e06 d06 hdm hy hfq hmm6
          go_wp2
          go_roundw
          case rel => exact ⟨jn + 1, hjlt, by go_num, HBN.out, HMN.out, HON.out⟩
          case measure => simp [intOf]; omega
        · obtain rfl : jn = m := by omega
          have HBN : Hid (BkAt g (.slice (some ⟨q1, 0, none⟩) n c1) wv (markN (k + 1) L) wr) := by
            show BkAt _ _ _ _ _
            have := HB6.out
            rw [← HMM.out, List.drop_length, List.append_nil] at this
            rw [← markN_step k L HR.out]
            exact this
          clear HB6 HO6 HO5 HB5 HM5 HB HM
          go_wp2
          go_roundw
          case rel => exact ⟨k + 1, hlt, by go_num, HBN.out, HM6.out⟩
          case measure => simp [intOf]; omega
    · obtain rfl : k = n := by omega
      go_wp2
      go_end0
      exact ⟨rfl, HB.out, HM.out⟩
end Go.Proofs.YtfmbadinfhpihaaGreat.Bk
namespace Go.Proofs.YtfmbadinfhpihaaGreat.Bk
open Go.RowKit
attribute [local go_sem ↓] Go.wp_at_zero Go.wp_at_succ
set_option maxRecDepth 100000

theorem same_marks (i m : Nat) (ss : List ByteArray) (hs : ss = marks i 0 m) (A A' : Option Addr) (c c' B : Nat) (w : World) (hr : Reads w B 1 A m (strs ss)) (hr' : Reads w B 1 A' m (strs (marks i 0 m))) (hl : m ≤ 9223372036854775807) :
    Calls Tryz.prog 18 #[.slice A m c, .slice A' m c'] w fun e w' => e = .returned (.bool true) ∧ ∃ q, w' = w.drewN q := by
  subst hs
  have h := same_any (marks i 0 m) (marks i 0 m) A A' c c' B w (by rw [marks_len]; exact hr) (by rw [marks_len]; exact hr') (by rw [marks_len]; exact hl) (by rw [marks_len]; exact hl)
  rw [marks_len, sameB_self] at h
  exact h
set_option maxHeartbeats 4000000 in
theorem marked_any (B B' : Nat) (tv : Value) (L : List (Value × List ByteArray)) (w : World) (hw : w.ownsRow B 22 1 tv L.length (L.map Prod.fst)) (hL : L.length ≤ 250)
    (hr : ∀ r ∈ L, w.ownsRow B' 9 1 r.1 r.2.length (strs r.2) ∧ r.2.length ≤ 100000000)
    (hm : ∀ k r, L[k]? = some r → r.2 = marks k 0 r.2.length) :
    Calls Tryz.prog 127 #[tv] w fun e w' => e = .returned (.bool true) ∧ Below w.heap.size w w' := by
  obtain ⟨A1, c1, rfl, hc1⟩ := own_form hw
  obtain ⟨n, hn⟩ : ∃ n, L.length = n := ⟨_, rfl⟩
  rw [hn] at hL hc1 hw ⊢
  have HR := Lib.hid hr; have HM := Lib.hid hm; have HN := Lib.hid hn; have HW := Lib.hid hw
  clear hr hm hn hw
  go_enter Tryz.func127, Tryz.ntmps127
  go_wp2
  go_loopw [3] (fun i wr => ∃ k : Nat, k ≤ n ∧ i = .int .i64 k ∧ Hid (Below w.heap.size w wr)) (fun i _ => n - (intOf i).toNat)
  case atStart => exact ⟨0, Nat.zero_le _, rfl, Below.refl _ _⟩
  case round =>
    obtain ⟨k, hk, rfl, HB⟩ := hrel
    by_cases hlt : k < n
    · have hot := own_below HW.out HB.out (fun k hk => (HW.out.lt k hk).2)
      obtain ⟨q, hq⟩ : ∃ q, A1 = some ⟨q, 0, none⟩ := by
        obtain ⟨q, c, e, _, _⟩ := hot.form (by omega)
        injection e with e _ _
        exact ⟨q, e⟩
      subst hq
      have hkL : k < L.length := by have := HN.out; omega
      have hrk : L[k]? = some L[k] := List.getElem?_eq_getElem hkL
      obtain ⟨r, hrr⟩ : ∃ r, L[k]? = some r := ⟨_, hrk⟩
      obtain ⟨ho, hl⟩ := HR.out r (List.mem_of_getElem? hrr)
      have hmk := HM.out k r hrr
      have d0 : wr.cell? ⟨q, k, none⟩ = some r.1 := by
        have := hot.cellAt k (by omega)
        rw [List.getElem?_map, hrr] at this
        exact this
      have ho2 := own_below ho HB.out (fun k hk => (ho.lt k hk).2)
      obtain ⟨A3, c3, hrv, hc3⟩ := own_form ho
      obtain ⟨m, hm⟩ : ∃ m, r.2.length = m := ⟨_, rfl⟩
      rw [hm] at hl hrv hc3 hmk ho2
      rw [hrv] at d0 ho2
      have hqlt : q < wr.heap.size := (hot.lt q rfl).2
      have b1 : (0 : Int) ≤ (k : Int) := by omega
      have b2 : (k : Int) < (n : Int) := by omega
      have qm := markTexts_any k 0 m (by omega) (by omega) (by omega)
      have HO2 := Lib.hid ho2
      have HMK := Lib.hid hmk
      clear hrk hrr ho hot ho2 hrv hm hmk
      go_wp2
      go_region_held3 (fun W => W.cell? ⟨q, k, none⟩ = some (.slice A3 m c3))
        (first | exact d0 | exact d1 | exact d2)
        (first
          | (go_at_call 191; refine (qm _).mono ?_; rintro e w5 ⟨v5, rfl, ho5, hb5⟩; have d1 : w5.cell? ⟨q, k, none⟩ = some (.slice A3 m c3) := (hb5.cell (show q < _ from hqlt)).trans d0; obtain ⟨A5, c5, rfl, hc5⟩ := own_form ho5; have hb5' : Below wr.heap.size wr w5 := (by first | exact hb5 | exact (Below.refl wr.heap.size wr).drew.trans hb5); have ho6 := own_below HO2.out hb5' (fun k hk => (HO2.out.lt k hk).2))
          | (go_at_call 18; (with_reducible refine (same_marks k m r.2 HMK.out A3 A5 c3 c5 w5.heap.size w5 (Reads.of_own ho6) (Reads.of_own ho5) (by omega)).mono ?_); rintro e w6 ⟨rfl, qq, rfl⟩; have d2 : (w5.drewN qq).cell? ⟨q, k, none⟩ = some (.slice A3 m c3) := d1))
      all_goals
        go_wp2
        exact ⟨⟨k + 1, hlt, by go_num, drewN_below (HB.out.trans ⟨hb5'.os, hb5'.tape, hb5'.output, hb5'.size, fun g hg => hb5'.block g (Nat.lt_of_lt_of_le hg HB.out.size)⟩) qq⟩, by simp [intOf]; omega⟩
    · obtain rfl : k = n := by omega
      go_wp2
      go_ret
      exact ⟨rfl, HB.out⟩
end Go.Proofs.YtfmbadinfhpihaaGreat.Bk
namespace Go.Proofs.YtfmbadinfhpihaaGreat.Bk
open Go.RowKit
attribute [local go_sem ↓] Go.wp_at_zero Go.wp_at_succ
set_option maxRecDepth 100000

/-- The first part of a row stays held where the whole row stays held. -/
theorem own_first {w w' : World} {base base0 : Nat} {e : TypeId} {size : Nat} {l v : Value} {n0 n1 : Nat} {xs0 xs1 : List Value} (hl : w.ownsRow base e size l n1 xs1) (hv : w.ownsRow base0 e size v n0 xs0)
    (hb : l.ownBlock = v.ownBlock) (hl' : w'.ownsRow base e size l n1 xs1) (hn : n0 ≤ n1) : w'.ownsRow base0 e size v n0 xs0 := by
  refine ⟨hv.1, ?_⟩
  rcases hv.2 with h | ⟨g, cap, cur, rfl, hbg, hg, hnc, hcm, hcs, ht⟩
  · exact .inl h
  · refine .inr ?_
    rcases hl.2 with ⟨rfl, _⟩ | ⟨g1, cap1, cur1, rfl, _, hg1, _, _, hcs1, ht1⟩
    · simp [Value.ownBlock] at hb
    · have e1 : g1 = g := by simpa [Value.ownBlock] using hb
      subst e1
      rw [hg] at hg1
      injection hg1 with hg1
      injection hg1 with e2 _ _
      subst e2
      rcases hl'.2 with ⟨h, _⟩ | ⟨g2, cap2, cur2, h, _, hg2, _, _, hcs2, ht2⟩
      · cases h
      · injection h with h1 h2 h3
        injection h1 with h1
        injection h1 with h1 _ _
        subst h1 h3
        have hx : xs0 = xs1.take (n0 * size) := by
          rw [← ht, ← ht1, List.take_take, Nat.min_eq_left (Nat.mul_le_mul_right _ hn)]
        refine ⟨g1, cap, cur2, rfl, hbg, hg2, hnc, hcm, ?_, ?_⟩
        · rw [hcs2, ← hcs1, hcs]
        · rw [hx, ← ht2, List.take_take, Nat.min_eq_left (Nat.mul_le_mul_right _ hn)]
/-- Rows of different kinds are never one block. -/
theorem own_kinds {w : World} {base base' : Nat} {e e' : TypeId} {size size' n n' : Nat} {v v' : Value} {xs xs' : List Value} (h : w.ownsRow base e size v n xs) (h' : w.ownsRow base' e' size' v' n' xs') (hne : e ≠ e') {q : Nat} (hq : v.ownBlock = some q) : v'.ownBlock ≠ some q := by
  rcases h.2 with ⟨rfl, _⟩ | ⟨g, cap, cur, rfl, _, hh, _⟩
  · simp [Value.ownBlock] at hq
  · have e1 : g = q := by simpa [Value.ownBlock] using hq
    subst e1
    exact own_blk_ne h' (t := e) (cs := cur) hh (Ne.symm hne)
/-- The lists that were grown: value and what it holds. -/
structure Grown (L : List TRow) (G : List (Value × List ByteArray)) (B : Nat) (w : World) : Prop where
  own : ∀ r ∈ G, w.ownsRow 0 9 1 r.1 r.2.length (strs r.2)
  len : ∀ r ∈ G, r.2.length ≤ 100000000
  mark : ∀ (j : Nat) (r : Value × List ByteArray), G[j]? = some r → r.2 = marks j 0 r.2.length
  at_ : ∀ (j : Nat) (r : Value × List ByteArray), G[j]? = some r → ∀ q : Nat, r.1.ownBlock = some q → (∃ t : TRow, L[j]? = some t ∧ t.v.ownBlock = some q) ∨ B ≤ q
theorem Grown.keep {L : List TRow} {G : List (Value × List ByteArray)} {B : Nat} {w w' : World} (h : Grown L G B w) (hk : ∀ (j : Nat) (r : Value × List ByteArray), G[j]? = some r → ∀ q : Nat, r.1.ownBlock = some q → w'.heap[q]? = w.heap[q]?) : Grown L G B w' :=
  ⟨fun r hr => by
    obtain ⟨j, hj⟩ := List.getElem?_of_mem hr
    exact own_keep' (h.own r hr) (hk j r hj), h.len, h.mark, h.at_⟩
theorem Grown.snoc {L : List TRow} {G : List (Value × List ByteArray)} {B : Nat} {w : World} (h : Grown L G B w) (l : Value) (m : Nat) (ho : w.ownsRow 0 9 1 l m (strs (marks G.length 0 m))) (hm : m ≤ 100000000)
    (ha : ∀ q, l.ownBlock = some q → (∃ t, L[G.length]? = some t ∧ t.v.ownBlock = some q) ∨ B ≤ q) : Grown L (G ++ [(l, marks G.length 0 m)]) B w := by
  refine ⟨fun r hr => ?_, fun r hr => ?_, fun j r hr => ?_, fun j r hr => ?_⟩
  · rcases List.mem_append.1 hr with hr | hr
    · exact h.own r hr
    · obtain rfl : r = (l, marks G.length 0 m) := by simpa using hr
      simpa [marks_len] using ho
  · rcases List.mem_append.1 hr with hr | hr
    · exact h.len r hr
    · obtain rfl : r = (l, marks G.length 0 m) := by simpa using hr
      simpa [marks_len] using hm
  all_goals
    rw [List.getElem?_append] at hr
    split at hr
    · first | exact h.mark j r hr | exact h.at_ j r hr
    · have hj : j = G.length := by
        rcases Nat.lt_or_ge (j - G.length) 1 with h1 | h1
        · omega
        · rw [List.getElem?_eq_none (by simpa using h1)] at hr; cases hr
      subst hj
      obtain rfl : (l, marks G.length 0 m) = r := by simpa using hr
      first | (simp [marks_len]; done) | exact ha
/-- A step of a list's growth: what the list held first, it holds still. -/
structure GrowAt (v l : Value) (ss : List ByteArray) (k n B : Nat) (w : World) : Prop where
  ov : w.ownsRow 0 9 1 v ss.length (strs ss)
  ol : w.ownsRow 0 9 1 l n (strs (marks k 0 n))
  le : ss.length ≤ n
  at_ : l.ownBlock = v.ownBlock ∨ ∀ q, l.ownBlock = some q → B ≤ q
theorem GrowAt.step {v l l' : Value} {ss : List ByteArray} {k n m B : Nat} {w w' : World} (h : GrowAt v l ss k n B w) (ho : w'.ownsRow 0 9 1 l' (n + m) (strs (marks k 0 n) ++ strs (marks k n m))) (hk : w'.ownsRow 0 9 1 l n (strs (marks k 0 n)))
    (hg : w.grownBy w' l.ownBlock) (hl : l'.ownBlock = l.ownBlock ∨ l'.ownBlock = some w.heap.size) (hB : B ≤ w.heap.size) : GrowAt v l' ss k (n + m) B w' := by
  refine ⟨?_, ?_, by have := h.le; omega, ?_⟩
  · by_cases e : l.ownBlock = v.ownBlock
    · exact own_first h.ol h.ov e hk h.le
    · exact own_grown h.ov hg (fun k' hk' e' => e (e'.trans hk'.symm))
  · rw [marks_add, strs_append]; exact ho
  · rcases hl with e | e
    · rw [e]; exact h.at_
    · refine .inr fun q hq => ?_
      rw [e] at hq
      injection hq with hq
      omega
theorem GrowAt.below {v l : Value} {ss : List ByteArray} {k n B : Nat} {w w' : World} (h : GrowAt v l ss k n B w) (hb : Below w.heap.size w w') : GrowAt v l ss k n B w' :=
  ⟨own_below h.ov hb (fun k hk => (h.ov.lt k hk).2), own_below h.ol hb (fun k hk => (h.ol.lt k hk).2), h.le, h.at_⟩
/-- The book beside a list's growth. -/
theorem BkAt.grow {g : Nat} {tv wv : Value} {L : List TRow} {w w' : World} (h : BkAt g tv wv L w) {k : Nat} {t : TRow} (ht : L[k]? = some t) (hk : ∀ q, q < w.heap.size → t.v.ownBlock ≠ some q → w'.heap[q]? = w.heap[q]?)
    (ho : w'.ownsRow 0 9 1 t.v t.ss.length (strs t.ss)) : BkAt g tv wv L w' := by
  have hm := List.mem_of_getElem? ht
  have hin : ∀ q, t.v.ownBlock = some q → q ∈ rowBlocks L := fun q hq => mem_rowBlocks hm (.inl hq)
  have hlt := h.there
  refine ⟨(hk g (hlt g (mem_bk.2 (.inl rfl))) (fun e => h.sep.gR (hin g e))).trans h.cells, own_keep' h.ot (fun q hq => hk q (h.ot.lt q hq).2 (fun e => h.sep.TR q hq (hin q e))), own_keep' h.ow (fun q hq => hk q (h.ow.lt q hq).2 (fun e => h.sep.WR q hq (hin q e))), ?_, h.len, h.sep⟩
  intro r hr
  obtain ⟨j, hj⟩ := List.getElem?_of_mem hr
  have h0 := h.rows r hr
  refine ⟨?_, own_keep' h0.m (fun q hq => hk q (h0.m.lt q hq).2 (fun e => (nodup_block h.sep.nd ht hj e (.inr hq)).2 hq)), h0.lv, h0.lm⟩
  by_cases hjk : k = j
  · subst hjk
    obtain rfl : t = r := by rw [ht] at hj; injection hj
    exact ho
  · exact own_keep' h0.v (fun q hq => hk q (h0.v.lt q hq).2 (fun e => hjk (nodup_block h.sep.nd ht hj e (.inl hq)).1))
/-- The grown lists beside the next list's growth. -/
theorem Grown.grow {g : Nat} {tv wv : Value} {L : List TRow} {G : List (Value × List ByteArray)} {B : Nat} {w w' : World} (h : BkAt g tv wv L w) (hG : Grown L G B w) (hB : ∀ q ∈ bkBlocks g tv wv L, q < B) {t : TRow} (ht : L[G.length]? = some t)
    (hk : ∀ q, q < w.heap.size → t.v.ownBlock ≠ some q → w'.heap[q]? = w.heap[q]?) : Grown L G B w' :=
  hG.keep fun j r hr q hq => hk q ((hG.own r (List.mem_of_getElem? hr)).lt q hq).2 (fun e => by
    have hj : j < G.length := (List.getElem?_eq_some_iff.1 hr).1
    rcases hG.at_ j r hr q hq with ⟨t', ht', e'⟩ | hq'
    · have := (nodup_block h.sep.nd ht ht' e (.inl e')).1
      omega
    · have := hB q (mem_bk.2 (.inr (.inr (.inr (mem_rowBlocks (List.mem_of_getElem? ht) (.inl e))))))
      omega)
end Go.Proofs.YtfmbadinfhpihaaGreat.Bk
namespace Go.Proofs.YtfmbadinfhpihaaGreat.Bk
open Go.RowKit
attribute [local go_sem ↓] Go.wp_at_zero Go.wp_at_succ
set_option maxRecDepth 100000

theorem _root_.Go.Proofs.YtfmbadinfhpihaaGreat.Mv.step {S : List Nat} {w w1 w2 : World} {row : Option Nat} (h : Mv S S w w1) (hg : w1.grownBy w2 row) (hrow : ∀ k, row = some k → k ∈ S ∨ w.heap.size ≤ k) : Mv S S w w2 := by
  have hs := h.size
  refine ⟨hg.os.trans h.os, hg.tape.trans h.tape, hg.output.trans h.output, Nat.le_trans hs hg.size, fun k hk hn => ?_, fun _ h => .inl h⟩
  rw [hg.block k (by omega) (fun e => (hrow k e.symm).elim hn (by omega))]
  exact h.block k hk hn
theorem _root_.Go.Proofs.YtfmbadinfhpihaaGreat.Mv.then_ {S : List Nat} {w w1 w2 : World} (h : Mv S S w w1) (hb : Below w1.heap.size w1 w2) : Mv S S w w2 := Mv.then_below' h hb
theorem GrowAt.first {g : Nat} {tv wv : Value} {L : List TRow} {w : World} (h : BkAt g tv wv L w) {k : Nat} {r : TRow} (hr : L[k]? = some r) (hm : r.ss = marks k 0 r.ss.length) : GrowAt r.v r.v r.ss k r.ss.length w.heap.size w := by
  have h0 := h.rows r (List.mem_of_getElem? hr)
  refine ⟨h0.v, ?_, Nat.le_refl _, .inl rfl⟩
  rw [← hm]
  exact h0.v
/-- Behind one list's growth and its place in the row of grown lists. -/
theorem grown_next {g : Nat} {tv wv o o' l : Value} {L : List TRow} {G : List (Value × List ByteArray)} {w wo w1 w2 : World} {ob : Obj} {k p : Nat} {r : TRow}
    (hb : BkAt g tv wv L wo) (hG : Grown L G w.heap.size wo) (hlt : ∀ q ∈ bkBlocks g tv wv L, q < w.heap.size) (hk : G.length = k) (hr : L[k]? = some r) (hM : Mv (bkBlocks g tv wv L) (bkBlocks g tv wv L) w wo)
    (ho : wo.ownsRow w.heap.size 22 1 o k (G.map Prod.fst))
    (h1 : Mv r.v.ownBlock.toList r.v.ownBlock.toList wo w1) (ha : GrowAt r.v l r.ss k p wo.heap.size w1) (hp : p ≤ 100000000)
    (hg : (w1.alloc ob).grownBy w2 o.ownBlock) (ho' : w2.ownsRow w.heap.size 22 1 o' (k + 1) (G.map Prod.fst ++ [l])) :
    (G ++ [(l, marks k 0 p)]).length = k + 1 ∧ w2.ownsRow w.heap.size 22 1 o' (k + 1) ((G ++ [(l, marks k 0 p)]).map Prod.fst) ∧ Grown L (G ++ [(l, marks k 0 p)]) w.heap.size w2 ∧ BkAt g tv wv L w2 ∧ Mv (bkBlocks g tv wv L) (bkBlocks g tv wv L) w w2 := by
  subst hk
  have hk1 : ∀ q, q < wo.heap.size → r.v.ownBlock ≠ some q → w1.heap[q]? = wo.heap[q]? := fun q hq hn => h1.block q hq (by simpa using hn)
  have hb1 := hb.grow hr hk1 ha.ov
  have hG1 := Grown.grow hb hG hlt hr hk1
  have hz := h1.size
  have hz0 := hM.size
  have hin : ∀ q, r.v.ownBlock = some q → q ∈ bkBlocks g tv wv L := fun q hq => mem_bk.2 (.inr (.inr (.inr (mem_rowBlocks (List.mem_of_getElem? hr) (.inl hq)))))
  have o1 : w1.ownsRow w.heap.size 22 1 o G.length (G.map Prod.fst) := own_keep' ho (fun q hq => hk1 q (ho.lt q hq).2 (fun e => by
    have h2 := hlt q (hin q e)
    have h3 := (ho.lt q hq).1
    omega))
  have hG2 := hG1.snoc l p ha.ol hp (fun q hq => by
    rcases ha.at_ with e | e
    · exact .inl ⟨r, hr, by rw [← e]; exact hq⟩
    · exact .inr (by have := e q hq; omega))
  have keep : ∀ q, q < w1.heap.size → o.ownBlock ≠ some q → w2.heap[q]? = w1.heap[q]? := fun q hq hn => (hg.block q (by rw [size_alloc_one]; omega) (fun e => hn e.symm)).trans (Below.heap_alloc w1 ob q hq)
  refine ⟨by simp, by rw [List.map_append]; exact ho', ?_, ?_, ?_⟩
  · exact hG2.keep fun j t hj q hq => by
      have hto := hG2.own t (List.mem_of_getElem? hj)
      exact keep q (hto.lt q hq).2 (own_kinds hto o1 (by decide) hq)
  · exact hb1.keep fun q hq => keep q (hb1.there q hq) (fun e => by
      have h2 := hlt q hq
      have h3 := (o1.lt q e).1
      omega)
  · refine (Mv.step (w1 := w1.alloc ob) ?_ hg (fun q hq => .inr (o1.lt q hq).1))
    refine Mv.alloc ?_ _
    refine ⟨h1.os.trans hM.os, h1.tape.trans hM.tape, h1.output.trans hM.output, by omega, fun q hq hn => ?_, fun _ h => .inl h⟩
    rw [hk1 q (by omega) (fun e => hn (hin q e))]
    exact hM.block q hq hn
set_option maxHeartbeats 8000000 in
theorem grow_any (g : Nat) (tv wv : Value) (L : List TRow) (w : World) (h : BkAt g tv wv L w) (hmk : ∀ k r, L[k]? = some r → r.ss = marks k 0 r.ss.length) (hsm : ∀ r ∈ L, r.ss.length ≤ 10000000) :
    Calls Tryz.prog 110 #[.pointer (some ⟨g, 0, none⟩)] w fun e w' => ∃ ov G, e = .returned ov ∧ G.length = L.length ∧ w'.ownsRow w.heap.size 22 1 ov L.length (G.map Prod.fst) ∧ Grown L G w.heap.size w' ∧ BkAt g tv wv L w' ∧ Mv (bkBlocks g tv wv L) (bkBlocks g tv wv L) w w' := by
  obtain ⟨i0, hinf, hz0, hz1, hz2⟩ := info_parts bk_info_str
  obtain ⟨i1, hinf1, hy0, hy1, hy2⟩ := info_parts bk_info_list
  obtain ⟨A1, c1, rfl, hc1⟩ := own_form h.ot
  obtain ⟨n, hn⟩ : ∃ n, L.length = n := ⟨_, rfl⟩
  have hl := h.len
  rw [hn] at hl hc1 ⊢
  have H := Lib.hid h; have HN := Lib.hid hn; have HMK := Lib.hid hmk; have HSM := Lib.hid hsm
  clear h hmk hsm
  rw [hn] at H
  clear hn
  obtain ⟨S, hS⟩ : ∃ S, bkBlocks g (.slice A1 n c1) wv L = S := ⟨_, rfl⟩
  have HSS := Lib.hid hS
  have HLT : Hid (∀ k, k ∈ S → k < w.heap.size) := by show ∀ k, _ → _; rw [← hS]; exact H.out.there
  rw [hS]
  clear hS
  go_enter Tryz.func110, Tryz.ntmps110
  go_wp2
  go_loopw [3, 4] (fun o i wr => ∃ (k : Nat) (G : List (Value × List ByteArray)), k ≤ n ∧ i = .int .i64 k ∧ Hid (G.length = k) ∧ Hid (wr.ownsRow w.heap.size 22 1 o k (G.map Prod.fst)) ∧ Hid (Grown L G w.heap.size wr) ∧ Hid (BkAt g (.slice A1 n c1) wv L wr) ∧ Hid (Mv S S w wr)) (fun _ i _ => n - (intOf i).toNat)
  case atStart => exact ⟨0, [], Nat.zero_le _, rfl, rfl, World.ownsRow_nil _ _ _ _, ⟨by simp, by simp, by simp, by simp⟩, H.out, Mv.refl _ _⟩
  case round =>
    obtain ⟨k, G, hk, rfl, HGL, HO, HG, HB, HM⟩ := hrel
    have e0 : wr.cell? ⟨g, 0, none⟩ = some (.slice A1 n c1) := HB.out.cell rfl
    by_cases hlt : k < n
    · have hot := HB.out.ot
      rw [HN.out] at hot
      obtain ⟨q1, c1', r, e, hr, d0, hcc⟩ := row_at hot HN.out hlt
      injection e with ea _ ec
      subst ea ec
      have hrow := HB.out.rows r (List.mem_of_getElem? hr)
      have hov : wr.ownsRow 0 9 1 r.v r.ss.length (strs r.ss) := hrow.v
      have hlv := HSM.out r (List.mem_of_getElem? hr)
      have HG0 := Lib.hid (GrowAt.first HB.out hr (HMK.out k r hr))
      obtain ⟨A3, c3, hrv, hc3⟩ := own_form hov
      obtain ⟨m, hm⟩ : ∃ m, r.ss.length = m := ⟨_, rfl⟩
      rw [hm] at hlv hrv hc3 HG0
      have d1 := d0
      rw [hrv] at d1
      have b1 : (0 : Int) ≤ (k : Int) := by omega
      have b2 : (k : Int) < (n : Int) := by omega
      have HRV := Lib.hid hrv; have HMM := Lib.hid hm; have HR := Lib.hid hr
      obtain ⟨wo, hwo⟩ : ∃ wo : World, wo = wr := ⟨_, rfl⟩
      subst hwo
      clear hot hrow hov hrv hm hr d0
      go_wp2
      go_loopw [5, 6] (fun l j w6 => ∃ (jn p c : Nat) (A : Option Addr), jn ≤ 12 ∧ Hid (p = m + jn) ∧ p ≤ m + 12 ∧ j = .int .i64 jn ∧ l = .slice A p c ∧ p ≤ c ∧ Hid (GrowAt r.v l r.ss k p wo.heap.size w6) ∧ Hid (Mv r.v.ownBlock.toList r.v.ownBlock.toList wo w6)) (fun _ j _ => 12 - (intOf j).toNat)
      case atStart => exact ⟨0, m, c3, A3, by omega, rfl, by omega, rfl, rfl, hc3, by rw [HRV.out] at HG0 ⊢; exact HG0.out, Mv.refl _ _⟩
      case round =>
        obtain ⟨jn, p, c, A, hj, HP, hpm, rfl, rfl, hpc, HGA, HM6⟩ := hrel
        have hz6 : wo.heap.size ≤ wr.heap.size := HM6.out.size
        by_cases hjlt : jn < 12
        · have qm := markTexts_any k p 1 (by omega) (by omega) (by omega) wr
          clear e0 d1
          go_wp2_with fail
          refine qm.mono ?_
          rintro e w7 ⟨v7, rfl, ho7, hb7⟩
          obtain ⟨A7, c7, rfl, hc7⟩ := own_form ho7
          have HG7 := Lib.hid (HGA.out.below hb7)
          have HM7 := Lib.hid (HM6.out.then_ hb7)
          have hz7 : wr.heap.size ≤ w7.heap.size := hb7.size
          have hol := HG7.out.ol
          have hrd := Reads.of_own ho7
          clear qm hb7 HGA HM6
          go_wp2_with (at_builtin; refine wpList_append_keep rfl _ _ 22 rfl 0 9 i0 (.string ⟨#[]⟩) 1 16 Tryz.underlying22 hinf hz0 hz1 hz2 rfl (by decide) (.slice A p c) p (strs (marks k 0 p)) rfl hol w7.heap.size A7 1 c7 (strs (marks k p 1)) rfl hrd ?d2 ?d3 ?d4 (Nat.zero_le _) ?_)
          case d2 => intro u hu; unfold strs at hu; obtain ⟨_, _, rfl⟩ := List.mem_map.1 hu; rfl
          case d3 => unfold maxLen; omega
          case d4 => omega
          intro v8 w8 ho8 hk8 hg8 hl8
          have HG8 := Lib.hid (HG7.out.step ho8 hk8 hg8 hl8 (by omega))
          have HM8 := Lib.hid (HM7.out.step hg8 (fun q hq => by
            rcases HG7.out.at_ with e | e
            · exact .inl (by rw [← e, hq]; simp)
            · exact .inr (e q hq)))
          obtain ⟨A8, c8, rfl, hc8⟩ := own_form ho8
          clear ho8 hk8 hg8 hl8 hol hrd ho7 HG7 HM7
          go_wp2
          go_roundw
          case rel => exact ⟨jn + 1, p + 1, c8, A8, hjlt, by show _ = _; have := HP.out; omega, by have := HP.out; omega, by go_num, rfl, hc8, HG8.out, HM8.out⟩
          case measure => simp [intOf]; omega
        · have qm := markTexts_any k p 60 (by omega) (by omega) (by omega) wr
          clear e0 d1
          go_wp2_with fail
          refine qm.mono ?_
          rintro e w7 ⟨v7, rfl, ho7, hb7⟩
          obtain ⟨A7, c7, rfl, hc7⟩ := own_form ho7
          have HG7 := Lib.hid (HGA.out.below hb7)
          have HM7 := Lib.hid (HM6.out.then_ hb7)
          have hz7 : wr.heap.size ≤ w7.heap.size := hb7.size
          have hol := HG7.out.ol
          have hrd := Reads.of_own ho7
          clear qm hb7 HGA HM6
          go_wp2_with (at_builtin; refine wpList_append_keep rfl _ _ 22 rfl 0 9 i0 (.string ⟨#[]⟩) 1 16 Tryz.underlying22 hinf hz0 hz1 hz2 rfl (by decide) (.slice A p c) p (strs (marks k 0 p)) rfl hol w7.heap.size A7 60 c7 (strs (marks k p 60)) rfl hrd ?d2 ?d3 ?d4 (Nat.zero_le _) ?_)
          case d2 => intro u hu; unfold strs at hu; obtain ⟨_, _, rfl⟩ := List.mem_map.1 hu; rfl
          case d3 => unfold maxLen; omega
          case d4 => omega
          intro v8 w8 ho8 hk8 hg8 hl8
          have HG8 := Lib.hid (HG7.out.step ho8 hk8 hg8 hl8 (by omega))
          have HM8 := Lib.hid (HM7.out.step hg8 (fun q hq => by
            rcases HG7.out.at_ with e | e
            · exact .inl (by rw [← e, hq]; simp)
            · exact .inr (e q hq)))
          have hz8 : w7.heap.size ≤ w8.heap.size := hg8.size
          obtain ⟨A8, c8, rfl, hc8⟩ := own_form ho8
          have hout := own_keep' HO.out (fun q hq => HM8.out.block q (HO.out.lt q hq).2 (fun e => by
            have h1 := (HO.out.lt q hq).1
            have h2 := HLT.out q (by rw [← HSS.out]; exact mem_bk.2 (.inr (.inr (.inr (mem_rowBlocks (List.mem_of_getElem? HR.out) (.inl (by simpa using e)))))))
            omega))
          have hzw : w.heap.size ≤ w8.heap.size := by have := HM.out.size; omega
          clear ho8 hk8 hg8 hl8 hol hrd ho7 HG7 HM7
          go_wp2_with (at_builtin; refine wpList_append_any _ rfl _ _ 35 rfl w.heap.size 22 i1 (.slice none 0 0) 1 24 Tryz.underlying35 hinf1 hy0 hy1 hy2 rfl (by decide) _ k (G.map Prod.fst) rfl (hout.alloc _) (w8.heap.size + 1) (some ⟨w8.heap.size, 0, none⟩) 1 1 [.slice A8 (p + 60) c8] rfl ?d5 ?d6 ?d7 ?d8 ?d9 ?_)
          case d5 => exact reads_newV w8 _ _ _ rfl rfl rfl (Nat.lt_succ_self _)
          case d6 => simp [Value.oneCell']
          case d7 => unfold maxLen; omega
          case d8 => omega
          case d9 => simp; omega
          intro v9 w9 ho9 hg9 hl9
          have hS := HSS.out
          have hnx := grown_next (HB.out) HG.out (by rw [hS]; exact HLT.out) HGL.out HR.out (by rw [hS]; exact HM.out) HO.out HM8.out HG8.out (by omega) hg9 ho9
          rw [hS] at hnx
          have HNX := Lib.hid hnx
          clear hnx ho9 hg9 hl9 hout hS HB HG HO HM8 HG8
          go_wp2
          go_roundw
          case rel => exact ⟨k + 1, G ++ [(Value.slice A8 (p + 60) c8, marks k 0 (p + 60))], hlt, by go_num, HNX.out.1, HNX.out.2.1, HNX.out.2.2.1, HNX.out.2.2.2.1, HNX.out.2.2.2.2⟩
          case measure => simp [intOf]; omega
    · obtain rfl : k = n := by omega
      go_wp2
      go_ret
      exact ⟨_, G, rfl, HGL.out, HO.out, HG.out, HB.out, HM.out⟩
end Go.Proofs.YtfmbadinfhpihaaGreat.Bk
