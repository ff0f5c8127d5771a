/-
  Package snap: Save, Commit, Base, Round as contracts.
  Conditions: stores and disks that the call has made; a disk of at most 10^6 bytes.
-/
import Derived.Test.YtjhinifmdjlblaaGreatSn8
import Derived.Deep.RegionLaw
namespace Go.Proofs.YtjhinifmdjlblaaGreat
open Go.RowKit Go.Maps
set_option maxRecDepth 100000

section
variable {a g c b n : Nat} {T : List Nat} {dir base : ByteArray} {br : Bool} {l : Value} {sn : Sn} {st : Dk} {w w' : World}
theorem snone_any (h : StBlk a (.pointer (some ⟨g, 0, none⟩)) c dir n base br w) :
    Calls Tryz.prog 31 #[.pointer (some ⟨a, 0, none⟩)] w fun e w' => e = .returned (.bool false) ∧ w = w' := by
  have e0 := h.cell0
  clear h
  go_enter Tryz.func31, Tryz.ntmps31
  go_wp2
  go_ret
  exact ⟨rfl, rfl⟩
def baseOf (n : Nat) (base : ByteArray) : ByteArray := if n = 0 then ⟨#[]⟩ else base
theorem base_any (h : StBlk a (.pointer (some ⟨g, 0, none⟩)) c dir n base br w) :
    Calls Tryz.prog 7 #[.pointer (some ⟨a, 0, none⟩)] w fun e w' => e = .returned (.tuple #[.string (baseOf n base), .bool (decide (n ≠ 0))]) ∧ w = w' := by
  have q := snone_any h
  have e3 := h.cell3
  have e4 := h.cell4
  clear h
  unfold baseOf
  by_cases h0 : n = 0
  · subst h0
    rw [if_pos rfl]
    go_enter Tryz.func7, Tryz.ntmps7
    go_wp2_with fail
    refine q.mono ?_
    rintro e w1 ⟨rfl, rfl⟩
    go_wp2
    go_ret2
    exact ⟨rfl, rfl⟩
  · rw [if_neg h0, decide_eq_true h0]
    have hb : ((n : Int) == 0) = false := by simp; omega
    clear h0
    go_enter Tryz.func7, Tryz.ntmps7
    go_wp2_with fail
    refine q.mono ?_
    rintro e w1 ⟨rfl, rfl⟩
    go_wp2
    go_ret2
    exact ⟨rfl, rfl⟩
theorem round_any (h : StBlk a (.pointer (some ⟨g, 0, none⟩)) c dir n base br w) :
    Calls Tryz.prog 10 #[.pointer (some ⟨a, 0, none⟩)] w fun e w' => e = .returned (.int .i64 n) ∧ w = w' := by
  have q := snone_any h
  have e3 := h.cell3
  clear h
  go_enter Tryz.func10, Tryz.ntmps10
  go_wp2_with fail
  refine q.mono ?_
  rintro e w1 ⟨rfl, rfl⟩
  go_wp2
  go_ret
  exact ⟨rfl, rfl⟩
end
/-! ### Commit -/
def commitS (dir : ByteArray) (sn : Sn) (st : Dk) (ss : List ByteArray) : Int × Sn × Dk :=
  if sn.br = true then (14, sn, st) else ((commitR (lgB dir sn.n) sn.lg st ss).1, { sn with lg := (commitR (lgB dir sn.n) sn.lg st ss).2.1 }, (commitR (lgB dir sn.n) sn.lg st ss).2.2)
def CommitSPost (a g c b : Nat) (T : List Nat) (dir : ByteArray) (w : World) (r : Int × Sn × Dk) (e : Ending) (w' : World) : Prop :=
  ∃ T', e = .returned (.int .i64 r.1) ∧ StoreAt a g c T' dir r.2.1 w' ∧ DkAt c b r.2.2 w' ∧ Mv (a :: c :: b :: T) (a :: c :: b :: T') w w'
theorem StBlk.ne_disk {a c c' b n : Nat} {l : Value} {dir base : ByteArray} {br : Bool} {st : Dk} {w : World} (h : StBlk a l c dir n base br w) (hd : DkAt c' b st w) : a ≠ c' ∧ a ≠ b := by
  refine ⟨fun e => ?_, fun e => ?_⟩
  · subst e
    have := (show w.heap[a]? = _ from h).symm.trans hd.1
    injection this with this
    injection this with _ ht
    exact absurd ht (by decide)
  · subst e
    obtain ⟨es, clock, hb, _⟩ := hd.2.1
    have := (show w.heap[a]? = _ from h).symm.trans hb
    cases this
theorem Mv.cons1 {T T' : List Nat} {w w' : World} (a : Nat) (h : Mv T T' w w') : Mv (a :: T) (a :: T') w w' :=
  ⟨h.os, h.tape, h.output, h.size, fun k hk hn => h.block k hk (fun e => hn (by simp [e])), fun k hk => by
    simp only [List.mem_cons] at hk ⊢
    rcases hk with rfl | hk
    · exact .inl (.inl rfl)
    · exact (h.link k hk).imp .inr id⟩
set_option maxHeartbeats 2000000 in
theorem scommit_any (a g c b : Nat) (T : List Nat) (dir : ByteArray) (sn : Sn) (st : Dk) (hok : st.Ok) (hd20 : dir.size ≤ 20) (hn : sn.n ≤ 1000000000000) (ss : List ByteArray) (n : Nat) (hss : ss.length = n) (A : Option Addr) (cp : Nat) (w : World) (h : StoreAt a g c T dir sn w) (hd : DkAt c b st w)
    (B : Nat) (hrd : Reads w B 1 A n (strs ss)) (hB : B ≤ w.heap.size) (hA : 0 < n → ∀ ad, A = some ad → ad.block ∉ T ∧ ad.block ≠ c ∧ ad.block ≠ b) (htot : total ss ≤ 50000000) (hL : n ≤ 1000000) (hrl : sn.lg.recs.length ≤ 1000000) (hgl : sn.lg.groups ≤ 1000000000) (hzl : sn.lg.size ≤ 1000000000) :
    Calls Tryz.prog 11 #[.pointer (some ⟨a, 0, none⟩), .slice A n cp] w (CommitSPost a g c b T dir w (commitS dir sn st ss)) := by
  obtain ⟨hb, hl, haT⟩ := h
  have q := snone_any hb
  have e0 := hb.cell0
  have e5 := hb.cell5
  have hac := hb.ne_disk hd
  obtain ⟨R, hR⟩ : ∃ R, commitS dir sn st ss = R := ⟨_, rfl⟩
  rw [hR]
  unfold commitS at hR
  obtain ⟨r, hr⟩ : ∃ r, commitR (lgB dir sn.n) sn.lg st ss = r := ⟨_, rfl⟩
  obtain ⟨r1, r2, r3⟩ := r
  have qc := commit_at g c b T (lgB dir sn.n) sn.lg st ss r1 r2 r3 hr hok n hss A cp w hl hd B hrd hB hA (lg6 dir sn.n hd20 (by omega)) htot hL hrl hgl hzl
  rw [hr] at hR
  have HB := Lib.hid hb
  have HL := Lib.hid hl
  have HD := Lib.hid hd
  obtain ⟨n0, base, br, lg⟩ := sn
  simp only at hR e5 HB HL
  cases br
  · rw [if_neg (by decide)] at hR
    subst hR
    clear hb hl hr hd hrd hA
    go_enter Tryz.func11, Tryz.ntmps11
    go_wp2_with fail
    refine q.mono ?_
    rintro e w1 ⟨rfl, rfl⟩
    go_wp2_with fail
    refine qc.mono ?_
    rintro e w2 ⟨T', rfl, h1, h2, h3⟩
    have hb2 : StBlk a (.pointer (some ⟨g, 0, none⟩)) c dir n0 base false w2 := HB.out.mv h3 (by simp; exact ⟨hac.1, hac.2, haT⟩)
    have HB2 := Lib.hid hb2
    have HN2 := Lib.hid (hb2.there_new h1)
    have HL2 := Lib.hid h1
    have HD2 := Lib.hid h2
    have HM2 := Lib.hid h3
    clear q qc hb2 h1 h2 h3
    go_wp2
    go_ret
    exact ⟨T', rfl, ⟨HB2.out, HL2.out, HN2.out⟩, HD2.out, HM2.out.cons1 a⟩
  · rw [if_pos rfl] at hR
    subst hR
    clear hb hl hr hd hrd hA qc
    go_enter Tryz.func11, Tryz.ntmps11
    go_wp2_with fail
    refine q.mono ?_
    rintro e w1 ⟨rfl, rfl⟩
    go_wp2
    go_ret
    exact ⟨T, rfl, ⟨HB.out, HL.out, haT⟩, HD.out, Mv.refl _ _⟩
/-! ### Save -/
def saveR (sn : Sn) (state : ByteArray) (st : Dk) (r : Int × Dk × Option Wal.Gs) : Int × Sn × Dk :=
  if sn.br = true then (14, sn, st) else if 150000 < state.size then (2, sn, st) else
  match r.2.2 with
  | none => (r.1, { sn with br := true }, r.2.1)
  | some gs => (0, ⟨sn.n + 1, state, false, lgOf gs false⟩, r.2.1)
def saveS (dir : ByteArray) (sn : Sn) (st : Dk) (state : ByteArray) : Int × Sn × Dk := saveR sn state st (nextD dir sn.n state st)
theorem runFrom_code (dir : ByteArray) (n : Nat) (state : ByteArray) : ∀ (j k : Nat) (st : Dk) (o : Option Wal.Gs), j + k = 8 → (6 ≤ k → ∃ gs, o = some gs) → ((runFrom dir n state j k st o).2.2 = none → (runFrom dir n state j k st o).1 ≠ 0) ∧ ∀ gs, (runFrom dir n state j k st o).2.2 = some gs → (runFrom dir n state j k st o).1 = 0
  | 0, k, st, o, hk, ho => by
    obtain ⟨gs, rfl⟩ := ho (by omega)
    exact ⟨(fun h => by cases h), fun _ _ => rfl⟩
  | j + 1, k, st, o, hk, ho => by
    unfold runFrom
    by_cases h0 : (stepAt dir n state k st o).1 = 0
    · rw [if_pos h0]
      refine runFrom_code dir n state j (k + 1) _ _ (by omega) fun h6 => ?_
      by_cases h5 : k = 5
      · subst h5
        have hc := openD_code (lgB dir (n + 1)) st
        change (openD (lgB dir (n + 1)) st).1 = 0 at h0
        show ∃ gs, (openD (lgB dir (n + 1)) st).2.2 = some gs
        cases hx : (openD (lgB dir (n + 1)) st).2.2 with
        | none => exact absurd h0 (hc.1 hx)
        | some gs => exact ⟨gs, rfl⟩
      · obtain ⟨gs, rfl⟩ := ho (by omega)
        refine ⟨gs, ?_⟩
        match k, h6, h5, hk with
        | 6, _, _, _ => rfl
        | 7, _, _, _ => rfl
        | k + 8, _, _, hk => omega
    · rw [if_neg h0]
      exact ⟨fun _ => h0, fun _ h => by cases h⟩
theorem nextD_code (dir : ByteArray) (n : Nat) (state : ByteArray) (st : Dk) : ((nextD dir n state st).2.2 = none → (nextD dir n state st).1 ≠ 0) ∧ ∀ gs, (nextD dir n state st).2.2 = some gs → (nextD dir n state st).1 = 0 := runFrom_code dir n state 8 0 st none rfl (fun h => by omega)
def SaveSPost (a c b : Nat) (T : List Nat) (dir : ByteArray) (w : World) (r : Int × Sn × Dk) (e : Ending) (w' : World) : Prop :=
  ∃ g' T', e = .returned (.int .i64 r.1) ∧ StoreAt a g' c T' dir r.2.1 w' ∧ DkAt c b r.2.2 w' ∧ Mv (a :: c :: b :: T) (a :: c :: b :: T') w w'
set_option maxHeartbeats 4000000 in
theorem save_any (a g c b : Nat) (T : List Nat) (dir : ByteArray) (sn : Sn) (st : Dk) (hok : st.Ok) (htot : Tot6 st) (hd20 : dir.size ≤ 20) (hn : sn.n ≤ 1000000000000) (state : ByteArray) (hz : state.size ≤ 9223372036854775807) (w : World) (h : StoreAt a g c T dir sn w) (hd : DkAt c b st w) :
    Calls Tryz.prog 9 #[.pointer (some ⟨a, 0, none⟩), .string state] w (SaveSPost a c b T dir w (saveS dir sn st state)) := by
  obtain ⟨hb, hl, haT⟩ := h
  have q := snone_any hb
  have e5 := hb.cell5
  have hac := hb.ne_disk hd
  obtain ⟨R, hR⟩ : ∃ R, saveS dir sn st state = R := ⟨_, rfl⟩
  rw [hR]
  unfold saveS at hR
  have hcode := nextD_code dir sn.n state st
  have qn := fun hz => next_any a c b sn.n _ dir sn.base state sn.br hd20 (by omega) hz st hok htot w hb hd hac.1 hac.2
  obtain ⟨r, hr⟩ : ∃ r, nextD dir sn.n state st = r := ⟨_, rfl⟩
  rw [hr] at hR hcode qn
  obtain ⟨n, base, br, lg⟩ := sn
  simp only at qn e5 hb hl hn
  have HB := Lib.hid hb
  have HL := Lib.hid hl
  have HD := Lib.hid hd
  unfold saveR at hR
  simp only at hR
  cases br
  rotate_left
  · rw [if_pos rfl] at hR
    subst hR
    clear hb hl hr hd qn hcode
    go_enter Tryz.func9, Tryz.ntmps9
    go_wp2_with fail
    refine q.mono ?_
    rintro e w1 ⟨rfl, rfl⟩
    go_wp2
    go_ret
    exact ⟨g, T, rfl, ⟨HB.out, HL.out, haT⟩, HD.out, Mv.refl _ _⟩
  rw [if_neg (by decide)] at hR
  by_cases h15 : 150000 < state.size
  · rw [if_pos h15] at hR
    subst hR
    have h15z : (150000 : Int) < state.size := by omega
    clear hb hl hr hd qn hcode
    go_enter Tryz.func9, Tryz.ntmps9
    go_wp2_with fail
    refine q.mono ?_
    rintro e w1 ⟨rfl, rfl⟩
    go_wp2
    go_ret
    exact ⟨g, T, rfl, ⟨HB.out, HL.out, haT⟩, HD.out, Mv.refl _ _⟩
  rw [if_neg h15] at hR
  have h15z : ¬ (150000 : Int) < state.size := by omega
  have qn2 := qn (by omega)
  obtain ⟨r1, r2, r3⟩ := r
  clear hr qn h15
  cases r3 with
  | none =>
    have hne := hcode.1 rfl
    simp only at hR hne
    subst hR
    have hb0 : (r1 != 0) = true := by simpa using hne
    clear hb hl hd hcode hne
    go_enter Tryz.func9, Tryz.ntmps9
    go_wp2_with fail
    refine q.mono ?_
    rintro e w1 ⟨rfl, rfl⟩
    go_wp2_with fail
    refine qn2.mono ?_
    rintro e w2 ⟨v, rfl, hv, hd2, hm2⟩
    have hb2 := HB.out.mv hm2 (by simp; exact hac)
    have f5 := hb2.frozen 5
    have x5 := hb2.cell5
    have HB3 := Lib.hid (hb2.set5 true)
    have HL3 := Lib.hid ((HL.out.aside hm2 (fun k hk => by have := HL.out.apart HD.out k hk; simp; exact this)).aside (mv_celli a 5 (.bool true) w2) (fun k hk e => by simp at e; subst e; exact haT hk))
    have HD3 := Lib.hid (hd2.mv (mv_celli a 5 (.bool true) w2) (by simp; omega) (by simp; omega))
    have HM3 : Hid (Mv (a :: c :: b :: T) (a :: c :: b :: T) w (w2.setCell ⟨a, 5, none⟩ (.bool true))) := by
      show Mv _ _ _ _
      exact (hm2.wide (by simp)).set_ (by simp) 5 _
    clear hb2 hd2 hm2 hv q qn2
    go_wp2
    go_ret
    exact ⟨g, T, rfl, ⟨HB3.out, HL3.out, haT⟩, HD3.out, HM3.out⟩
  | some gs =>
    have hz0 := hcode.2 gs rfl
    simp only at hR hz0
    subst hz0
    subst hR
    have hcl := fun W => Lib.hid (clone_any state W (by omega))
    clear hb hl hd hcode
    go_enter Tryz.func9, Tryz.ntmps9
    go_wp2_with fail
    refine q.mono ?_
    rintro e w1 ⟨rfl, rfl⟩
    go_wp2_with fail
    refine qn2.mono ?_
    rintro e w2 ⟨_, rfl, ⟨g', T', rfl, hl2, hT'⟩, hd2, hm2⟩
    have hb2 := HB.out.mv hm2 (by simp; exact hac)
    have f0 := hb2.frozen 0
    have f3 := hb2.frozen 3
    have f4 := hb2.frozen 4
    have x3 := hb2.cell3
    have x0 := hb2.cell0
    have x4 := hb2.cell4
    have hz2 := hm2.size
    have haT' : a ∉ T' := fun e => by have := hT' a e; have := HB.out.lt; omega
    have HB2 : Hid (StBlk a (.pointer (some ⟨g, 0, none⟩)) c dir n base false w2.drew) := hb2
    have HL2 := Lib.hid hl2
    have HD2 := Lib.hid hd2
    have HM2 := Lib.hid hm2
    clear hb2 hl2 hd2 hm2 q qn2
    go_wp2
    go_region_law ((go_simp; (with_reducible refine (hcl _).out.mono ?_); rintro e w3 ⟨rfl, hb3⟩; have hb3' := HB2.out.below hb3; have f03 := hb3'.frozen 0; have f33 := hb3'.frozen 3; have f43 := hb3'.frozen 4; have x33 := hb3'.cell3; have x03 := hb3'.cell0; have x43 := hb3'.cell4))
    all_goals
      have hwr : IntKind.i64.wrap ((n : Int) + 1) = ((n + 1 : Nat) : Int) := by rw [IntKind.wrap_i64]; omega
      rw [hwr]
      have hz3 := hb3.size
      have hdz : w2.drew.heap.size = w2.heap.size := rfl
      have hs4 := ((hb3'.set0 (.pointer (some ⟨g', 0, none⟩))).set3 (n + 1)).set4 state
      have hm4 : Mv [a] [a] w3 (((w3.setCell ⟨a, 0, none⟩ (.pointer (some ⟨g', 0, none⟩))).setCell ⟨a, 3, none⟩ (.int .i64 ((n + 1 : Nat) : Int))).setCell ⟨a, 4, none⟩ (.string state)) :=
        (((Mv.refl [a] w3).set_ (by simp) 0 _).set_ (by simp) 3 _).set_ (by simp) 4 _
      have hl3 : LogAt g' c T' (lgB dir (n + 1)) (lgOf gs false) w3 := (show LogAt g' c T' (lgB dir (n + 1)) (lgOf gs false) w2.drew from HL2.out).below hb3
      have hd3 : DkAt c b r2 w3 := (show DkAt c b r2 w2.drew from HD2.out).below hb3 (show DkAt c b r2 w2.drew from HD2.out).lt (show DkAt c b r2 w2.drew from HD2.out).ltb
      have hm3 : Mv [c, b] [c, b] w w3 := (show Mv [c, b] [c, b] w w2.drew from HM2.out.drewN 1).then_below hb3
      obtain ⟨W4, hW4⟩ : ∃ W, ((w3.setCell ⟨a, 0, none⟩ (.pointer (some ⟨g', 0, none⟩))).setCell ⟨a, 3, none⟩ (.int .i64 ((n + 1 : Nat) : Int))).setCell ⟨a, 4, none⟩ (.string state) = W := ⟨_, rfl⟩
      rw [hW4] at hs4 hm4 ⊢
      have HS4 := Lib.hid hs4
      have HL4 := Lib.hid (hl3.aside hm4 (fun k hk e => by simp at e; subst e; exact haT' hk))
      have HD4 := Lib.hid (hd3.mv hm4 (by simp; omega) (by simp; omega))
      have HM4 : Hid (Mv (a :: c :: b :: T) (a :: c :: b :: T') w W4) := by
        show Mv _ _ _ _
        have h1 : Mv [a, c, b] [a, c, b] w W4 := (hm3.wide (by simp)).trans (hm4.wide (by simp))
        refine ⟨h1.os, h1.tape, h1.output, h1.size, fun k hk hn => h1.block k hk (fun e => hn (by simp at e ⊢; omega)), fun k hk => ?_⟩
        simp only [List.mem_cons] at hk ⊢
        rcases hk with rfl | rfl | rfl | hk
        · exact .inl (.inl rfl)
        · exact .inl (.inr (.inl rfl))
        · exact .inl (.inr (.inr (.inl rfl)))
        · exact .inr (hT' k hk)
      clear hs4 hm4 hl3 hd3 hm3 hb3 hb3' hW4 hwr
      go_wp2
      go_ret
      exact ⟨g', T', rfl, ⟨HS4.out, HL4.out, haT'⟩, HD4.out, HM4.out⟩
end Go.Proofs.YtjhinifmdjlblaaGreat
