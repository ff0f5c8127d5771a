/-
  The book with lists of texts: each list marked with marks of its own.
  Conditions: lists that nobody else holds.
-/
import Derived.Test.YtlniafpbkhkkaaaGreatBk3
namespace Go.Proofs.YtlniafpbkhkkaaaGreat
open Go.RowKit
attribute [local go_sem ↓] Go.wp_at_zero Go.wp_at_succ
set_option maxRecDepth 100000

def markR (i : Nat) (r : TRow) : TRow := ⟨r.v, marks i 0 r.ss.length, r.m, r.mm⟩
def markN (j : Nat) (L : List TRow) : List TRow := L.mapIdx fun i r => if i < j then markR i r else r
theorem markN_len (j : Nat) (L : List TRow) : (markN j L).length = L.length := by simp [markN]
theorem markN_get (j : Nat) (L : List TRow) (k : Nat) : (markN j L)[k]? = L[k]?.map fun r => if k < j then markR k r else r := by
  unfold markN
  rw [List.getElem?_mapIdx]
theorem markN_zero (L : List TRow) : markN 0 L = L := by
  apply List.ext_getElem?
  intro k
  rw [markN_get]
  cases L[k]? <;> simp
theorem markN_v (j : Nat) (L : List TRow) : (markN j L).map TRow.v = L.map TRow.v := by
  apply List.ext_getElem?
  intro k
  rw [List.getElem?_map, markN_get, List.getElem?_map]
  cases L[k]? with
  | none => rfl
  | some r =>
    simp only [Option.map_some]
    split <;> rfl
theorem markN_m (j : Nat) (L : List TRow) : (markN j L).map TRow.m = L.map TRow.m := by
  apply List.ext_getElem?
  intro k
  rw [List.getElem?_map, markN_get, List.getElem?_map]
  cases L[k]? with
  | none => rfl
  | some r =>
    simp only [Option.map_some]
    split <;> rfl
theorem rowBlocks_of {L L' : List TRow} (hv : L'.map TRow.v = L.map TRow.v) (hm : L'.map TRow.m = L.map TRow.m) : rowBlocks L' = rowBlocks L := by
  induction L generalizing L' with
  | nil =>
    have : L' = [] := by simpa using hv
    rw [this]
  | cons r L ih =>
    cases L' with
    | nil => simp at hv
    | cons r' L' =>
      simp only [List.map_cons, List.cons.injEq] at hv hm
      have := ih hv.2 hm.2
      unfold rowBlocks at this ⊢
      rw [List.flatMap_cons, List.flatMap_cons, this]
      unfold TRow.blocks
      rw [hv.1, hm.1]
theorem markN_blocks (j : Nat) (L : List TRow) : rowBlocks (markN j L) = rowBlocks L := rowBlocks_of (markN_v j L) (markN_m j L)
theorem bkBlocks_mark (g : Nat) (tv wv : Value) (j : Nat) (L : List TRow) : bkBlocks g tv wv (markN j L) = bkBlocks g tv wv L := by unfold bkBlocks; rw [markN_blocks]
/-- A list's block is in no other row. -/
theorem nodup_block {L : List TRow} (hn : (rowBlocks L).Nodup) : ∀ {i k : Nat} {r r' : TRow}, L[i]? = some r → L[k]? = some r' → ∀ {q : Nat}, r.v.ownBlock = some q → (r'.v.ownBlock = some q ∨ r'.m.ownBlock = some q) → i = k ∧ r'.m.ownBlock ≠ some q := by
  induction L with
  | nil => intro i k r r' hr; simp at hr
  | cons a L ih =>
    intro i k r r' hr hr' q hq hq'
    have e : rowBlocks (a :: L) = a.blocks ++ rowBlocks L := rfl
    rw [e, List.nodup_append] at hn
    obtain ⟨h1, h2, h3⟩ := hn
    have hin : ∀ {x : TRow}, x.v.ownBlock = some q ∨ x.m.ownBlock = some q → q ∈ x.blocks := by
      intro x hx
      unfold TRow.blocks
      rcases hx with h | h <;> simp [h]
    cases i with
    | zero =>
      obtain rfl : a = r := by simpa using hr
      cases k with
      | zero =>
        obtain rfl : a = r' := by simpa using hr'
        refine ⟨rfl, fun hm => ?_⟩
        unfold TRow.blocks at h1
        rw [hq, hm] at h1
        simp at h1
      | succ k =>
        have hr2 : L[k]? = some r' := by simpa using hr'
        exact absurd rfl (h3 q (hin (.inl hq)) q (mem_rowBlocks (List.mem_of_getElem? hr2) hq'))
    | succ i =>
      have hr1 : L[i]? = some r := by simpa using hr
      cases k with
      | zero =>
        obtain rfl : a = r' := by simpa using hr'
        exact absurd rfl (h3 q (hin hq') q (mem_rowBlocks (List.mem_of_getElem? hr1) (.inl hq)))
      | succ k =>
        have hr2 : L[k]? = some r' := by simpa using hr'
        obtain ⟨h4, h5⟩ := ih h2 hr1 hr2 hq hq'
        exact ⟨by omega, h5⟩
theorem set_map {f : TRow → Value} {L : List TRow} {i : Nat} {r r' : TRow} (hr : L[i]? = some r) (he : f r' = f r) : (L.set i r').map f = L.map f := by
  apply List.ext_getElem?
  intro k
  rw [List.getElem?_map, List.getElem?_map, List.getElem?_set]
  by_cases hik : i = k
  · subst hik
    rw [if_pos rfl, hr]
    have := (List.getElem?_eq_some_iff.1 hr).1
    simp [this, he]
  · rw [if_neg hik]
/-- A text stored into a kept list. -/
theorem BkAt.store {g : Nat} {tv wv : Value} {L : List TRow} {w : World} (h : BkAt g tv wv L w) {i : Nat} {r : TRow} (hr : L[i]? = some r) {q c : Nat} (hv : r.v = .slice (some ⟨q, 0, none⟩) r.ss.length c) (j : Nat) (x : ByteArray) :
    BkAt g tv wv (L.set i ⟨r.v, r.ss.set j x, r.m, r.mm⟩) (w.setCell ⟨q, j, none⟩ (.string x)) := by
  have hq : r.v.ownBlock = some q := by rw [hv]; rfl
  have hm := List.mem_of_getElem? hr
  have hin : q ∈ rowBlocks L := mem_rowBlocks hm (.inl hq)
  have fin : ∀ k, k ≠ q → (w.setCell ⟨q, j, none⟩ (.string x)).heap[k]? = w.heap[k]? := fun k hk => Below.heap_setCell _ _ _ _ hk
  have ev : (L.set i ⟨r.v, r.ss.set j x, r.m, r.mm⟩).map TRow.v = L.map TRow.v := set_map hr rfl
  have em : (L.set i ⟨r.v, r.ss.set j x, r.m, r.mm⟩).map TRow.m = L.map TRow.m := set_map hr rfl
  have hgq : g ≠ q := fun e => h.sep.gR (e ▸ hin)
  refine ⟨(fin g hgq).trans h.cells, ?_, ?_, ?_, by rw [List.length_set]; exact h.len, by rw [rowBlocks_of ev em]; exact h.sep⟩
  · rw [ev, List.length_set]
    exact own_keep' h.ot (fun k hk => fin k (fun e => h.sep.TR k hk (e ▸ hin)))
  · rw [em, List.length_set]
    exact own_keep' h.ow (fun k hk => fin k (fun e => h.sep.WR k hk (e ▸ hin)))
  · intro r' hr'
    obtain ⟨k, hk, e⟩ := List.getElem_of_mem hr'
    have hk' : (L.set i ⟨r.v, r.ss.set j x, r.m, r.mm⟩)[k]? = some r' := by rw [List.getElem?_eq_getElem hk, e]
    rw [List.getElem?_set] at hk'
    by_cases hik : i = k
    · subst hik
      have hil := (List.getElem?_eq_some_iff.1 hr).1
      simp only [if_true, hil] at hk'
      injection hk' with hk'
      subst hk'
      have h0 := h.rows r hm
      have hov := h0.v
      rw [hv] at hov
      have hmq := (nodup_block h.sep.nd hr hr hq (.inl hq)).2
      refine ⟨?_, own_keep' h0.m (fun k hk => fin k (fun e => hmq (e ▸ hk))), by rw [List.length_set]; exact h0.lv, h0.lm⟩
      have := (hov.stored j (.string x)).1
      show World.ownsRow _ _ _ _ r.v (r.ss.set j x).length (strs (r.ss.set j x))
      rw [hv, List.length_set]
      have es : strs (r.ss.set j x) = (strs r.ss).set j (.string x) := by unfold strs; rw [List.map_set]
      rw [es]
      exact this
    · rw [if_neg hik] at hk'
      have h0 := h.rows r' (List.mem_of_getElem? hk')
      refine ⟨own_keep' h0.v (fun k' hk2 => fin k' (fun e => hik (nodup_block h.sep.nd hr hk' hq (.inl (e ▸ hk2))).1)), own_keep' h0.m (fun k' hk2 => fin k' (fun e => hik (nodup_block h.sep.nd hr hk' hq (.inr (e ▸ hk2))).1)), h0.lv, h0.lm⟩
theorem Mv.then_below' {S S' : List Nat} {w w' w'' : World} (h : Mv S S' w w') (hb : Below w'.heap.size w' w'') : Mv S S' w w'' := h.trans (Mv.of_new hb fun _ h => .inl h)
theorem set_mid (a d : List ByteArray) (y x : ByteArray) : (a ++ y :: d).set a.length x = a ++ [x] ++ d := by
  rw [List.set_append_right _ _ (Nat.le_refl _), Nat.sub_self]
  simp
theorem marks_set (i jn : Nat) (ss : List ByteArray) (h : jn < ss.length) : (marks i 0 jn ++ ss.drop jn).set jn (nm i jn) = marks i 0 (jn + 1) ++ ss.drop (jn + 1) := by
  have h1 := drop_cons (List.getElem?_eq_getElem h)
  have h2 := set_mid (marks i 0 jn) (ss.drop (jn + 1)) ss[jn] (nm i jn)
  rw [marks_len] at h2
  rw [h1, h2, marks_succ, Nat.zero_add]
theorem markN_at (k : Nat) (L : List TRow) {r : TRow} (hr : L[k]? = some r) : (markN k L)[k]? = some r := by rw [markN_get, hr]; simp
theorem markN_step (k : Nat) (L : List TRow) {r : TRow} (hr : L[k]? = some r) : (markN k L).set k (markR k r) = markN (k + 1) L := by
  apply List.ext_getElem?
  intro j
  rw [List.getElem?_set, markN_get, markN_get]
  have hk := (List.getElem?_eq_some_iff.1 hr).1
  by_cases hj : k = j
  · subst hj
    rw [if_pos rfl, if_pos (by rw [markN_len]; exact hk), hr]
    simp
  · rw [if_neg hj]
    cases L[j]? with
    | none => rfl
    | some x =>
      simp only [Option.map_some]
      by_cases h1 : j < k
      · rw [if_pos h1, if_pos (by omega)]
      · rw [if_neg h1, if_neg (by omega)]
theorem set_same (k : Nat) (L : List TRow) {r : TRow} (hr : L[k]? = some r) : L.set k r = L := by
  apply List.ext_getElem?
  intro j
  rw [List.getElem?_set]
  by_cases hj : k = j
  · subst hj
    have hk := (List.getElem?_eq_some_iff.1 hr).1
    rw [if_pos rfl, if_pos hk, hr]
  · rw [if_neg hj]
set_option maxHeartbeats 8000000 in
theorem put_any (g : Nat) (tv wv : Value) (L : List TRow) (w : World) (h : BkAt g tv wv L w) :
    Calls Tryz.prog 50 #[.pointer (some ⟨g, 0, none⟩)] w fun e w' => e = .returned (.tuple #[]) ∧ BkAt g tv wv (markN L.length L) w' ∧ Mv (bkBlocks g tv wv L) (bkBlocks g tv wv L) w w' := by
  obtain ⟨A1, c1, rfl, hc1⟩ := own_form h.ot
  obtain ⟨n, hn⟩ : ∃ n, L.length = n := ⟨_, rfl⟩
  have hl := h.len
  rw [hn] at hl hc1 ⊢
  have H := Lib.hid h; have HN := Lib.hid hn
  clear h
  rw [hn] at H
  clear hn
  obtain ⟨S, hS⟩ : ∃ S, bkBlocks g (.slice A1 n c1) wv L = S := ⟨_, rfl⟩
  have HSS := Lib.hid hS
  have HLT : Hid (∀ k, k ∈ S → k < w.heap.size) := by show ∀ k, _ → _; rw [← hS]; exact H.out.there
  rw [hS]
  clear hS
  go_enter Tryz.func50, Tryz.ntmps50
  go_wp2
  go_loopw [2] (fun i wr => ∃ k : Nat, k ≤ n ∧ i = .int .i64 k ∧ Hid (BkAt g (.slice A1 n c1) wv (markN k L) wr) ∧ Hid (Mv S S w wr)) (fun i _ => n - (intOf i).toNat)
  case atStart => exact ⟨0, Nat.zero_le _, rfl, by show BkAt _ _ _ _ _; rw [markN_zero]; exact H.out, Mv.refl _ _⟩
  case round =>
    obtain ⟨k, hk, rfl, HB, HM⟩ := hrel
    have e0 : wr.cell? ⟨g, 0, none⟩ = some (.slice A1 n c1) := HB.out.cell rfl
    by_cases hlt : k < n
    · have hot := HB.out.ot
      rw [markN_v, markN_len, HN.out] at hot
      obtain ⟨q1, c1', r, e, hr, d0, hcc⟩ := row_at hot HN.out hlt
      injection e with ea _ ec
      subst ea ec
      have hrk := markN_at k L hr
      have hrow := HB.out.rows r (List.mem_of_getElem? hrk)
      have hov : wr.ownsRow 0 9 1 r.v r.ss.length (strs r.ss) := hrow.v
      have hlv := hrow.lv
      obtain ⟨A3, c3, hrv, hc3⟩ := own_form hov
      obtain ⟨m, hm⟩ : ∃ m, r.ss.length = m := ⟨_, rfl⟩
      rw [hm] at hlv hrv hc3
      rw [hrv] at d0
      have b1 : (0 : Int) ≤ (k : Int) := by omega
      have b2 : (k : Int) < (n : Int) := by omega
      have hq1 : q1 ∈ S := by rw [← HSS.out]; exact mem_bk.2 (.inr (.inl rfl))
      have hgS : g ∈ S := by rw [← HSS.out]; exact mem_bk.2 (.inl rfl)
      have HRK := Lib.hid hrk; have HRV := Lib.hid hrv; have HMM := Lib.hid hm; have HR := Lib.hid hr
      have qm := markTexts_any k 0 m (by omega) (by omega) (by omega) wr
      have hzr := HM.out.size
      clear hot hrow hov hrk hrv hm hr
      go_wp2_with fail
      refine qm.mono ?_
      rintro e w5 ⟨v5, rfl, ho5, hb5⟩
      obtain ⟨A5, c5, rfl, hc5⟩ := own_form ho5
      have HO5 := Lib.hid ho5
      have HM5 := Lib.hid (Mv.then_below' HM.out hb5)
      have HB5 : Hid (BkAt g (.slice (some ⟨q1, 0, none⟩) n c1) wv ((markN k L).set k ⟨r.v, marks k 0 0 ++ r.ss.drop 0, r.m, r.mm⟩) w5) := by
        show BkAt _ _ _ _ _
        have : (⟨r.v, marks k 0 0 ++ r.ss.drop 0, r.m, r.mm⟩ : TRow) = r := by simp [marks]
        rw [this, set_same k _ HRK.out]
        exact HB.out.below hb5
      have hz5 := hb5.size
      obtain ⟨wo, hwo⟩ : ∃ wo : World, wo = wr := ⟨_, rfl⟩
      subst hwo
      clear qm ho5 hb5 e0 d0
      go_wp2
      go_loopw [4] (fun j w6 => ∃ jn : Nat, jn ≤ m ∧ j = .int .i64 jn ∧ Hid (BkAt g (.slice (some ⟨q1, 0, none⟩) n c1) wv ((markN k L).set k ⟨r.v, marks k 0 jn ++ r.ss.drop jn, r.m, r.mm⟩) w6) ∧ Hid (Mv S S w w6) ∧ Hid (w6.ownsRow wo.heap.size 9 1 (.slice A5 m c5) m (strs (marks k 0 m)))) (fun j _ => m - (intOf j).toNat)
      case atStart => exact ⟨0, Nat.zero_le _, rfl, HB5.out, HM5.out, HO5.out⟩
      case round =>
        obtain ⟨jn, hjn, rfl, HB6, HM6, HO6⟩ := hrel
        by_cases hjlt : jn < m
        · have hrk6 : ((markN k L).set k ⟨r.v, marks k 0 jn ++ r.ss.drop jn, r.m, r.mm⟩)[k]? = some ⟨r.v, marks k 0 jn ++ r.ss.drop jn, r.m, r.mm⟩ := by
            rw [List.getElem?_set_self]
            rw [markN_len, HN.out]; exact hlt
          have hlen6 : (marks k 0 jn ++ r.ss.drop jn).length = m := by rw [List.length_append, marks_len, List.length_drop, HMM.out]; omega
          have hov6 : wr.ownsRow 0 9 1 r.v (marks k 0 jn ++ r.ss.drop jn).length (strs (marks k 0 jn ++ r.ss.drop jn)) := (HB6.out.rows _ (List.mem_of_getElem? hrk6)).v
          obtain ⟨q, cq, hvq, _, hqlt⟩ := hov6.form (by omega)
          rw [hlen6] at hvq
          have hA3 : A3 = some ⟨q, 0, none⟩ := by have := HRV.out; rw [hvq] at this; injection this with h1 _ _; exact h1.symm
          have hcq : cq = c3 := by have := HRV.out; rw [hvq] at this; injection this
          subst hA3 hcq
          rw [hvq, hlen6] at hov6
          obtain ⟨qm, cm, hvm, _, hmlt⟩ := HO6.out.form (show 0 < m by omega)
          injection hvm with hA5 _ hcm
          subst hA5 hcm
          have hdm := HO6.out.cellAt jn (by omega)
          rw [show (strs (marks k 0 m))[jn]? = some (.string (nm k jn)) by unfold strs marks; rw [List.getElem?_map, List.getElem?_map, List.getElem?_range hjlt]; simp] at hdm
          have hdq : ∃ y, wr.cell? ⟨q, jn, none⟩ = some (.string y) := by
            have h1 := hov6.cellAt jn (by omega)
            refine ⟨(marks k 0 jn ++ r.ss.drop jn)[jn]'(by omega), h1.trans ?_⟩
            unfold strs
            rw [List.getElem?_map, List.getElem?_eq_getElem (by omega)]
            rfl
          obtain ⟨y, hy⟩ := hdq
          have hfq := hov6.frozenAt jn
          have e06 : wr.cell? ⟨g, 0, none⟩ = some (.slice (some ⟨q1, 0, none⟩) n c1) := HB6.out.cell rfl
          have hot6 := HB6.out.ot
          have hmv6 : ((markN k L).set k ⟨r.v, marks k 0 jn ++ r.ss.drop jn, r.m, r.mm⟩).map TRow.v = L.map TRow.v := (set_map (f := TRow.v) (r' := ⟨r.v, marks k 0 jn ++ r.ss.drop jn, r.m, r.mm⟩) HRK.out rfl).trans (markN_v _ _)
          have hmm6 : ((markN k L).set k ⟨r.v, marks k 0 jn ++ r.ss.drop jn, r.m, r.mm⟩).map TRow.m = L.map TRow.m := (set_map (f := TRow.m) (r' := ⟨r.v, marks k 0 jn ++ r.ss.drop jn, r.m, r.mm⟩) HRK.out rfl).trans (markN_m _ _)
          rw [hmv6, List.length_set, markN_len, HN.out] at hot6
          obtain ⟨q1', c1', r6, e6, hr6, d06, _⟩ := row_at hot6 HN.out hlt
          injection e6 with ea6 _ ec6
          injection ea6 with ea6
          injection ea6 with ea6 _
          subst ea6 ec6
          have hr66 : r6 = r := by have := HR.out; rw [hr6] at this; injection this
          rw [hr66, HRV.out] at d06
          have hqS : q ∈ S := by rw [← HSS.out]; exact mem_bk.2 (.inr (.inr (.inr (mem_rowBlocks (List.mem_of_getElem? HR.out) (.inl (by rw [HRV.out]; rfl))))))
          have hqg : q ≠ g := fun e => HB6.out.sep.gR (by rw [rowBlocks_of hmv6 hmm6]; rw [← e]; exact mem_rowBlocks (List.mem_of_getElem? HR.out) (.inl (by rw [HRV.out]; rfl)))
          have hqq1 : q ≠ q1 := fun e => HB6.out.sep.TR q1 rfl (by rw [rowBlocks_of hmv6 hmm6]; rw [← e]; exact mem_rowBlocks (List.mem_of_getElem? HR.out) (.inl (by rw [HRV.out]; rfl)))
          have hqm : q ≠ qm := fun e => by
            have h1 := (HO6.out.lt qm rfl).1
            have h2 := HLT.out q hqS
            omega
          have b3 : (0 : Int) ≤ (jn : Int) := by omega
          have b4 : (jn : Int) < (m : Int) := by omega
          have HST := Lib.hid (HB6.out.store hrk6 (q := q) (c := cq) (by show r.v = .slice _ (marks k 0 jn ++ r.ss.drop jn).length _; rw [hlen6]; exact HRV.out) jn (nm k jn))
          have HM7 := Lib.hid (HM6.out.set_ hqS jn (.string (nm k jn)))
          have HO7 := Lib.hid (own_keep' (w' := wr.setCell ⟨q, jn, none⟩ (.string (nm k jn))) HO6.out (fun k' hk' => Below.heap_setCell _ _ _ _ (fun e => by have h1 := (HO6.out.lt k' hk').1; have h2 := HLT.out q hqS; have e' : k' = q := e; omega)))
          have HMS := Lib.hid (marks_set k jn r.ss (by rw [HMM.out]; exact hjlt))
          clear hrk6 hlen6 hov6 hvq hot6 hmv6 hr6 hr66 hqS HB6 HM6 HO6 hqlt hmlt
          go_wp2
          go_region_held3 (fun W => W.cell? ⟨g, 0, none⟩ = some (.slice (some ⟨q1, 0, none⟩) n c1) ∧ W.cell? ⟨q1, k, none⟩ = some (.slice (some ⟨q, 0, none⟩) m cq) ∧ W.cell? ⟨qm, jn, none⟩ = some (.string (nm k jn)))
            (first | exact ⟨e06, d06, hdm⟩ | exact ⟨(World.cell?_setCell_other _ _ _ _ (by simp)).trans e06, (World.cell?_setCell_other _ _ _ _ (by simp)).trans d06, (World.cell?_setCell_other _ _ _ _ (by simp)).trans hdm⟩)
            (fail)
          have HBN : Hid (BkAt g (.slice (some ⟨q1, 0, none⟩) n c1) wv ((markN k L).set k ⟨r.v, marks k 0 (jn + 1) ++ r.ss.drop (jn + 1), r.m, r.mm⟩) (wr.setCell ⟨q, jn, none⟩ (.string (nm k jn))).drew) := by
            show BkAt _ _ _ _ _
            have := HST.out
            rw [List.set_set, HMS.out] at this
            exact this.keep fun _ _ => rfl
          have HMN : Hid (Mv S S w (wr.setCell ⟨q, jn, none⟩ (.string (nm k jn))).drew) := Mv.then_below' HM7.out (Below.refl _ _).drew
          have HON : Hid ((wr.setCell ⟨q, jn, none⟩ (.string (nm k jn))).drew.ownsRow wo.heap.size 9 1 (.slice (some ⟨qm, 0, none⟩) m c5) m (strs (marks k 0 m))) := own_keep' HO7.out fun _ _ => rfl
          clear HST HM7 HO7 HMS e06 d06 hdm hy hfq hmm6
          go_wp2
          go_roundw
          case rel => exact ⟨jn + 1, hjlt, by go_num, HBN.out, HMN.out, HON.out⟩
          case measure => simp [intOf]; omega
        · obtain rfl : jn = m := by omega
          have HBN : Hid (BkAt g (.slice (some ⟨q1, 0, none⟩) n c1) wv (markN (k + 1) L) wr) := by
            show BkAt _ _ _ _ _
            have := HB6.out
            rw [← HMM.out, List.drop_length, List.append_nil] at this
            rw [← markN_step k L HR.out]
            exact this
          clear HB6 HO6 HO5 HB5 HM5 HB HM
          go_wp2
          go_roundw
          case rel => exact ⟨k + 1, hlt, by go_num, HBN.out, HM6.out⟩
          case measure => simp [intOf]; omega
    · obtain rfl : k = n := by omega
      go_wp2
      go_end0
      exact ⟨rfl, HB.out, HM.out⟩
end Go.Proofs.YtlniafpbkhkkaaaGreat
