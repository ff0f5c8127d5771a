/-
  Package snap in whole: Open of files that can be opened; chapter 7's first call.
  Conditions: disks and stores that the call has made.
-/
import Derived.Test.YtjhinifmdjlblaaGreatSn9
import Derived.Test.YtjhinifmdjlblaaGreatSnD2
namespace Go.Proofs.YtjhinifmdjlblaaGreat
open Go.RowKit Go.Maps Go.Sort
set_option maxRecDepth 100000

def OpenQ (c b : Nat) (dir : ByteArray) (n : Nat) (base : ByteArray) (G : List (List ByteArray)) (w : World) (e : Ending) (w' : World) : Prop :=
  ∃ a g T st' fs', e = .returned (.tuple #[.pointer (some ⟨a, 0, none⟩), .int .i64 0]) ∧ StoreAt a g c T dir ⟨n, base, false, logOf G false⟩ w' ∧ DkAt c b st' w' ∧ On1 st' fs' ∧ Files fs' (qm dir n base G) ∧ w.heap.size ≤ a ∧ (∀ k, k ∈ T → w.heap.size ≤ k) ∧ Mv [c, b] [c, b] w w'
theorem openQ (c b : Nat) (dir : ByteArray) (n : Nat) (base : ByteArray) (G : List (List ByteArray)) (hN : Names dir n) (st : Dk) (fs : DataW Unit) (m : Fm) (h : On1 st fs) (hF : Files fs m) (ho : Opn dir n base G fs m) (htot : totF fs ≤ 100000000) (w : World) (hd : DkAt c b st w) :
    Calls Tryz.prog 6 #[.pointer (some ⟨c, 0, none⟩), .string dir] w (OpenQ c b dir n base G w) := by
  obtain ⟨st', fs', gs, e, hgs, h', hF'⟩ := opens_law hN h hF ho
  have hn := hN.nn
  have hf : findN dir (lstS st.fs) 0 ≤ 1000000000000000000 := by rw [h.fs_, found_n hN hF ho]; omega
  have q := sopen_any c b dir hN.d0 hN.d1 st h.ok (by rw [h.fs_]; exact htot) w hd hf
  rw [e] at q
  refine q.mono ?_
  rintro r w' ⟨v, rfl, ⟨a, g, T, rfl, h1, h2, h3⟩, h4, h5⟩
  simp only at h1
  rw [hgs] at h1
  exact ⟨a, g, T, st', fs', rfl, h1, h4, h', hF', h2, h3, h5⟩
theorem opn_new (dir : ByteArray) : Opn dir 0 ⟨#[]⟩ [] (.map []) (fun _ => none) :=
  ⟨fun h => absurd rfl h, fun _ => rfl, by decide, .inl ⟨rfl, rfl⟩, (fun s v h => by cases h), by decide⟩
/-- What a call leaves that turns a disk and a store, both of the call's own. -/
theorem Mv.hereS {c b a : Nat} {T T' : List Nat} {w0 w w' : World} (hB : Below w0.heap.size w0 w) (hm : Mv (a :: c :: b :: T) (a :: c :: b :: T') w w') (ha : w0.heap.size ≤ a) (hc : w0.heap.size ≤ c) (hb : w0.heap.size ≤ b) (hT : ∀ k, k ∈ T → w0.heap.size ≤ k) : Below w0.heap.size w0 w' ∧ ∀ k, k ∈ T' → w0.heap.size ≤ k := by
  have hs := hB.size
  refine ⟨hB.trans ⟨hm.os, hm.tape, hm.output, hm.size, fun k hk => hm.block k (by omega) (fun e => ?_)⟩, fun k hk => ?_⟩
  · simp only [List.mem_cons] at e
    rcases e with rfl | rfl | rfl | e
    · omega
    · omega
    · omega
    · have := hT k e; omega
  · rcases hm.link k (by simp [hk]) with h | h
    · simp only [List.mem_cons] at h
      rcases h with rfl | rfl | rfl | h
      · exact ha
      · exact hc
      · exact hb
      · exact hT k h
    · omega
theorem StoreAt.below {a g c : Nat} {T : List Nat} {dir : ByteArray} {sn : Sn} {w w' : World} (h : StoreAt a g c T dir sn w) (hb : Below w.heap.size w w') : StoreAt a g c T dir sn w' := ⟨h.1.below hb, h.2.1.below hb, h.2.2⟩
theorem StoreAt.aside {a g c : Nat} {T S S' : List Nat} {dir : ByteArray} {sn : Sn} {w w' : World} (h : StoreAt a g c T dir sn w) (hm : Mv S S' w w') (ha : a ∉ S) (hT : ∀ k, k ∈ T → k ∉ S) : StoreAt a g c T dir sn w' := ⟨h.1.mv hm ha, h.2.1.aside hm hT, h.2.2⟩
/-- A commit of what lies in a new block. -/
theorem scommit_lit (a g c b : Nat) (T : List Nat) (dir : ByteArray) (sn : Sn) (st : Dk) (hok : st.Ok) (hd20 : dir.size ≤ 20) (hn : sn.n ≤ 1000000000000) (ss : List ByteArray) (x : Int) (lg' : Lg) (st' : Dk) (hbr : sn.br = false) (hr : commitR (lgB dir sn.n) sn.lg st ss = (x, lg', st')) (n : Nat) (hss : ss.length = n) (cs : Array Value) (hcs : cs.toList = strs ss) (t : TypeId) (s cp : Nat) (w : World) (hs : s = w.heap.size) (h : StoreAt a g c T dir sn w) (hd : DkAt c b st w)
    (htot : total ss ≤ 50000000) (hL : n ≤ 1000000) (hrl : sn.lg.recs.length ≤ 1000000) (hgl : sn.lg.groups ≤ 1000000000) (hzl : sn.lg.size ≤ 1000000000) :
    Calls Tryz.prog 11 #[.pointer (some ⟨a, 0, none⟩), .slice (some ⟨s, 0, none⟩) n cp] (w.alloc (.cells cs t)) fun e w' => ∃ T', e = .returned (.int .i64 x) ∧ StoreAt a g c T' dir ⟨sn.n, sn.base, false, lg'⟩ w' ∧ DkAt c b st' w' ∧ Mv (a :: c :: b :: T) (a :: c :: b :: T') w w' := by
  subst hs
  have hlc := hd.lt
  have hlb := hd.ltb
  have hall : StoreAt a g c T dir sn (w.alloc (.cells cs t)) := ⟨h.1.keep (Below.heap_alloc w _ a h.1.lt), h.2.1.alloc _, h.2.2⟩
  have q := scommit_any a g c b T dir sn st hok hd20 hn ss n hss (some ⟨w.heap.size, 0, none⟩) cp (w.alloc (.cells cs t)) hall (hd.alloc _) (w.heap.size + 1) (reads_newV w (strs ss) t cs hcs (by rw [strs_len]; exact hss) rfl (Nat.lt_succ_self _)) (by simp) (fun _ ad e => by injection e with e; subst e; exact ⟨fun hm => by have := h.2.1.there _ hm; exact absurd this (Nat.lt_irrefl _), show w.heap.size ≠ c by omega, show w.heap.size ≠ b by omega⟩) htot hL hrl hgl hzl
  refine q.mono ?_
  rintro e w' ⟨T', rfl, k1, k2, k3⟩
  unfold commitS at k1 k2 ⊢
  rw [hbr, if_neg (by decide)] at k1 k2 ⊢
  rw [hr] at k1 k2 ⊢
  simp only at k1 k2 ⊢
  exact ⟨T', by first | rfl | trivial, k1, k2, ((Mv.refl _ _).alloc _).trans k3⟩
theorem names_x (n : Nat) (h : n < 1000000000000) : Names ⟨#[120]⟩ n := ⟨by decide, by decide, h⟩
theorem names_w (n : Nat) (h : n < 1000000000000) : Names ⟨#[119]⟩ n := ⟨by decide, by decide, h⟩
theorem one_group (s : ByteArray) (hs : s.size ≤ 10) : (groupB [s]).size ≤ 100 := by have := group_len [s]; have h1 : total [s] = s.size := by simp [total]
                                                                                     have h2 : [s].length = 1 := rfl; omega
theorem file_one (s : ByteArray) : (fileOf [[s]]).size = (groupB [s]).size := by
  have := fileOf_snoc [] [s]
  rw [List.nil_append] at this
  rw [this, size_app', size_nil, Nat.zero_add]
theorem fit_one (s : ByteArray) (hs : s.size ≤ 10) : ∀ ss ∈ [[s]], FitG ss := by
  intro ss h
  obtain rfl : ss = [s] := by simpa using h
  refine ⟨by simp, ?_⟩
  unfold longB
  simp; omega
theorem long_one (s : ByteArray) (hs : s.size ≤ 10) : longB [s] = false := by unfold longB; simp; omega
theorem saveS_ok {dir : ByteArray} {n : Nat} {base state : ByteArray} {lg : Lg} {st st' : Dk} {gs : Wal.Gs} (hs : state.size ≤ 150000) (h : nextD dir n state st = (0, st', some gs)) : saveS dir ⟨n, base, false, lg⟩ st state = (0, ⟨n + 1, state, false, lgOf gs false⟩, st') := by
  unfold saveS saveR
  rw [if_neg (show ¬ (false = true) by decide), if_neg (by omega)]
  simp only [h]
theorem saveS_no {dir : ByteArray} {n : Nat} {base state : ByteArray} {lg : Lg} {st st' : Dk} {x : Int} (hs : state.size ≤ 150000) (h : nextD dir n state st = (x, st', none)) : saveS dir ⟨n, base, false, lg⟩ st state = (x, ⟨n, base, true, lg⟩, st') := by
  unfold saveS saveR
  rw [if_neg (show ¬ (false = true) by decide), if_neg (by omega)]
  simp only [h]
theorem lg_none : lgOf Wal.none_ false = logOf [] false := rfl
theorem own_one {w : World} {B : Nat} {v : Value} {x : ByteArray} (h : w.ownsRow B 9 1 v 1 (strs [x])) : ∃ q cap, v = .slice (some ⟨q, 0, none⟩) 1 cap ∧ w.cell? ⟨q, 0, none⟩ = some (.string x) := by
  obtain ⟨q, cap, rfl, _, _⟩ := h.form (by omega)
  have hc := h.cells (g := q) rfl
  exact ⟨q, cap, rfl, hc 0 _ rfl⟩
theorem tot_quiet {fs : DataW Unit} {dir base : ByteArray} {n : Nat} {G : List (List ByteArray)} (hF : Files fs (qm dir n base G)) (hb : base.size ≤ 150000) (hG : (fileOf G).size ≤ 100000) : totF fs ≤ 1000000 := by have := tot_qm hF hb; omega
set_option maxHeartbeats 8000000 in
theorem alive7_any (w : World) : Calls Tryz.prog 8 #[] w fun e w' => e = .returned (.bool true) ∧ Below w.heap.size w w' := by
  have hdx : (⟨#[120]⟩ : ByteArray).size ≤ 20 := by decide
  have sA : (⟨#[97]⟩ : ByteArray).size ≤ 10 := by decide
  have sB : (⟨#[98]⟩ : ByteArray).size ≤ 10 := by decide
  have zA := one_group ⟨#[97]⟩ sA
  have zB := one_group ⟨#[98]⟩ sB
  have HX := Lib.hid hdx; have HSA := Lib.hid sA; have HSB := Lib.hid sB; have HZA := Lib.hid zA; have HZB := Lib.hid zB
  clear hdx sA sB zA zB
  go_enter Tryz.func8, Tryz.ntmps8
  go_wp2_with fail
  refine (new_any _).mono ?_
  rintro e w1 ⟨c, b, rfl, h1, hc, hb, hb1⟩
  have HB1 := Lib.hid hb1
  have q := openQ c b ⟨#[120]⟩ 0 ⟨#[]⟩ [] (names_x 0 (by decide)) newDk (.map []) _ on1_new files_none (opn_new _) (Nat.zero_le _) w1 h1
  clear hb1 h1
  go_wp2_with fail
  refine q.mono ?_
  rintro e w2 ⟨a, g, T, s2, fs2, rfl, hs2, hd2, ho2, hF2, ha2, hT2, hm2⟩
  have HB2 := Lib.hid (open_here HB1.out hm2 hc hb)
  have HA := Lib.hid (Nat.le_trans HB1.out.size ha2)
  have HT2 : Hid (∀ k, k ∈ T → w.heap.size ≤ k) := fun k hk => Nat.le_trans HB1.out.size (hT2 k hk)
  have hcl := commit_law ho2.pow hF2 (by decide) (long_one ⟨#[97]⟩ HSA.out) (by decide) (by have := HZA.out; rw [size_nil]; omega)
  rcases hcl with ⟨s3, fs3, e3, ho3, hF3⟩ | ⟨hf, _⟩
  rotate_left
  · cases hf
  rw [List.nil_append] at e3 hF3
  have q3 := fun (s : Nat) (hs : s = w2.heap.size) => scommit_lit a g c b T ⟨#[120]⟩ _ s2 ho2.ok HX.out (by decide) [⟨#[97]⟩] _ _ _ rfl e3 1 rfl #[.string ⟨#[97]⟩] rfl 9 s 1 w2 hs hs2 hd2 (by decide) (by decide) (by decide) (by decide) (by decide)
  have Q3 := Lib.hid q3
  have HO3 := Lib.hid ho3
  have HF3 := Lib.hid hF3
  clear q q3 e3 ho3 hF3 hs2 hd2 ho2 hF2 hm2 hT2 ha2 HB1
  go_wp2_with fail
  refine (Q3.out _ rfl).mono ?_
  rintro e w3 ⟨T3, rfl, hs3, hd3, hm3⟩
  obtain ⟨hB3, hT3⟩ := Mv.hereS HB2.out hm3 HA.out hc hb HT2.out
  have HB3 := Lib.hid hB3
  have HT3 := Lib.hid hT3
  have hz3 := file_one ⟨#[97]⟩
  have htot3 := tot_quiet HF3.out (by decide) (by have := HZA.out; omega)
  rcases next_law (state := ⟨#[65]⟩) (names_x 1 (by decide)) HO3.out HF3.out (by decide) (by decide) (by have := HZA.out; omega) with ⟨s4, fs4, e4, ho4, hF4⟩ | ⟨hf, _⟩
  rotate_left
  · cases hf
  have q4 := save_any a g c b T3 ⟨#[120]⟩ _ s3 HO3.out.ok (by unfold Tot6; rw [HO3.out.fs_]; exact htot3) HX.out (by decide) ⟨#[65]⟩ (by decide) w3 hs3 hd3
  rw [saveS_ok (by decide) e4, lg_none] at q4
  have Q4 := Lib.hid q4
  have HO4 := Lib.hid ho4
  have HF4 := Lib.hid hF4
  clear Q3 q4 e4 ho4 hF4 hs3 hd3 hm3 hB3 hT3 HO3 HF3 HB2 HT2 hz3 htot3
  go_wp2_with fail
  refine Q4.out.mono ?_
  rintro e w4 ⟨g4, T4, rfl, hs4, hd4, hm4⟩
  obtain ⟨hB4, hT4⟩ := Mv.hereS HB3.out hm4 HA.out hc hb HT3.out
  have HB4 := Lib.hid hB4
  have HT4 := Lib.hid hT4
  simp only at hs4 hd4
  have hcl := commit_law HO4.out HF4.out (by decide) (long_one ⟨#[98]⟩ HSB.out) (by decide) (by have := HZB.out; rw [size_nil]; omega)
  rcases hcl with ⟨s5, fs5, e5, ho5, hF5⟩ | ⟨hf, _⟩
  rotate_left
  · cases hf
  rw [List.nil_append] at e5 hF5
  have q5 := fun (s : Nat) (hs : s = w4.heap.size) => scommit_lit a g4 c b T4 ⟨#[120]⟩ _ s4 HO4.out.ok HX.out (by decide) [⟨#[98]⟩] _ _ _ rfl e5 1 rfl #[.string ⟨#[98]⟩] rfl 9 s 1 w4 hs hs4 hd4 (by decide) (by decide) (by decide) (by decide) (by decide)
  have Q5 := Lib.hid q5
  have HO5 := Lib.hid ho5
  have HF5 := Lib.hid hF5
  clear Q4 q5 e5 ho5 hF5 hs4 hd4 hm4 hB4 hT4 HO4 HF4 HB3 HT3
  go_wp2_with fail
  refine (Q5.out _ rfl).mono ?_
  rintro e w5 ⟨T5, rfl, hs5, hd5, hm5⟩
  obtain ⟨hB5, hT5⟩ := Mv.hereS HB4.out hm5 HA.out hc hb HT4.out
  have HB5 := Lib.hid hB5
  have hz5 := file_one ⟨#[98]⟩
  have q6 := openQ c b ⟨#[120]⟩ 1 ⟨#[65]⟩ [[⟨#[98]⟩]] (names_x 1 (by decide)) s5 fs5 _ HO5.out.on1 HF5.out (opn_quiet (names_x 1 (by decide)) HF5.out (fun h => by cases h) (by decide) (fit_one ⟨#[98]⟩ HSB.out)) (Nat.le_trans (tot_quiet HF5.out (by decide) (by have := HZB.out; omega)) (by decide)) w5 hd5
  clear Q5 hs5 hd5 hm5 hB5 hT5 HO5 HF5 HB4 HT4 hz5
  go_wp2_with fail
  refine q6.mono ?_
  rintro e w6 ⟨a6, g6, T6, s6, fs6, rfl, hs6, hd6, _, _, _, _, hm6⟩
  have HB6 := Lib.hid (open_here HB5.out hm6 hc hb)
  have HS6 := Lib.hid hs6
  have qb := base_any hs6.1
  rw [show baseOf 1 ⟨#[65]⟩ = ⟨#[65]⟩ from rfl] at qb
  have hl0 := hs6.1.cell0
  have qr := records_any g6 c T6 _ _ w6 hs6.2.1 (by decide)
  clear q6 hs6 hd6 hm6 HB5
  go_wp2_with fail
  refine qb.mono ?_
  rintro e w7 ⟨rfl, rfl⟩
  go_wp2_with fail
  refine qr.mono ?_
  rintro e w8 ⟨v, rfl, hown, hb8⟩
  have hrec : (logOf [[(⟨#[98]⟩ : ByteArray)]] false).recs = [⟨#[98]⟩] := rfl
  rw [hrec] at hown
  obtain ⟨qq, cap, rfl, d0⟩ := own_one hown
  have HB8 := Lib.hid (HB6.out.trans (hb8.mono HB6.out.size))
  have qn := round_any (HS6.out.1.below hb8)
  clear qr hown hb8 HB6 hrec
  go_wp2_with fail
  refine qn.mono ?_
  rintro e w9 ⟨rfl, rfl⟩
  go_wp2
  go_ret
  exact ⟨rfl, HB8.out⟩
end Go.Proofs.YtjhinifmdjlblaaGreat
