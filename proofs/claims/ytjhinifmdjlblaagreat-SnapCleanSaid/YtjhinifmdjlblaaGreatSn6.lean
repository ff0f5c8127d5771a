/-
  Package snap: Open as a contract.
  Conditions: a disk that the call has made, of at most 10^8 bytes; a name that a store can have.
-/
import Derived.Test.YtjhinifmdjlblaaGreatSn5
namespace Go.Proofs.YtjhinifmdjlblaaGreat
open Go.RowKit Go.Maps
set_option maxRecDepth 100000

theorem Mv.and_new {S T T' : List Nat} {w w1 w2 : World} (h : Mv S S w w1) (hm : Mv T T' w1 w2) (hT : ∀ k, k ∈ T → k ∈ S ∨ w.heap.size ≤ k) : Mv S S w w2 := by
  have h1 := h.size
  have h2 := hm.size
  refine ⟨hm.os.trans h.os, hm.tape.trans h.tape, hm.output.trans h.output, by omega, fun k hk hn => ?_, fun k hk => .inl hk⟩
  rw [hm.block k (by omega) (fun e => (hT k e).elim hn (by omega)), h.block k hk hn]
/-- A store, in plain words: its round, its picture's state, is it broken, its log. -/
structure Sn where
  n : Nat
  base : ByteArray
  br : Bool
  lg : Lg
/-- A store in block a, its log in block g with its blocks T. -/
def StoreAt (a g c : Nat) (T : List Nat) (dir : ByteArray) (sn : Sn) (w : World) : Prop :=
  StBlk a (.pointer (some ⟨g, 0, none⟩)) c dir sn.n sn.base sn.br w ∧ LogAt g c T (lgB dir sn.n) sn.lg w ∧ a ∉ T
def StoreBack (c B : Nat) (dir : ByteArray) (w' : World) (v : Value) : Option Sg → Prop
  | none => v = .pointer none
  | some s => ∃ a g T, v = .pointer (some ⟨a, 0, none⟩) ∧ StoreAt a g c T dir ⟨s.n, s.base, false, lgOf s.gs false⟩ w' ∧ B ≤ a ∧ ∀ k, k ∈ T → B ≤ k
def OpenSPost (c b : Nat) (dir : ByteArray) (w : World) (r : Int × Dk × Option Sg) (e : Ending) (w' : World) : Prop :=
  ∃ v, e = .returned (.tuple #[v, .int .i64 r.1]) ∧ StoreBack c w.heap.size dir w' v r.2.2 ∧ DkAt c b r.2.1 w' ∧ Mv [c, b] [c, b] w w'
theorem openD_code (nm : ByteArray) (st : Dk) : ((openD nm st).2.2 = none → (openD nm st).1 ≠ 0) ∧ (∀ gs, (openD nm st).2.2 = some gs → (openD nm st).1 = 0) := by
  unfold openD
  generalize (if (readD st nm).2 = 7 then createD st nm else ((readD st nm).2, st)) = p
  generalize Wal.goodOf (readD st nm).1.data.toList = gs
  generalize firstD (mendD nm (readD st nm).1 gs.size) p.2 = q
  by_cases h1 : p.1 = 0
  · rw [if_pos h1]
    by_cases h2 : gs.size < (readD st nm).1.size
    · rw [if_pos h2]
      by_cases h3 : q.1 = 0
      · rw [if_pos h3]
        exact ⟨(fun h => by cases h), fun _ _ => rfl⟩
      · rw [if_neg h3]
        exact ⟨fun _ => h3, fun _ h => by cases h⟩
    · rw [if_neg h2]
      exact ⟨(fun h => by cases h), fun _ _ => rfl⟩
  · rw [if_neg h1]
    exact ⟨fun _ => h1, fun _ h => by cases h⟩
theorem firstD_ok : ∀ (D : List (Dk → Int × Dk)), (∀ d ∈ D, ∀ st : Dk, st.Ok → (d st).2.Ok) → ∀ st : Dk, st.Ok → (firstD D st).2.Ok
  | [], _, _, h => h
  | d :: D, hD, st, h => by
    unfold firstD
    have h1 := hD d (by simp) st h
    split
    · exact firstD_ok D (fun e he => hD e (by simp [he])) _ h1
    · exact h1
theorem mendD_ok (nm y : ByteArray) (sz : Nat) : ∀ d ∈ mendD nm y sz, ∀ st : Dk, st.Ok → (d st).2.Ok := by
  intro d hd st h
  unfold mendD at hd
  simp only [List.mem_cons, List.not_mem_nil, or_false] at hd
  rcases hd with rfl | rfl | rfl | rfl | rfl
  · exact removeIf_ok h _
  · exact create_ok h _
  · exact append_ok h _ _
  · exact sync_ok h _
  · exact rename_ok h _ _
theorem openD_ok {st : Dk} (h : st.Ok) (nm : ByteArray) : (openD nm st).2.1.Ok := by
  unfold openD
  have hp : (if (readD st nm).2 = 7 then createD st nm else ((readD st nm).2, st)).2.Ok := by
    split
    · exact create_ok h nm
    · exact h
  generalize (if (readD st nm).2 = 7 then createD st nm else ((readD st nm).2, st)) = p at hp ⊢
  generalize Wal.goodOf (readD st nm).1.data.toList = gs
  have hq := firstD_ok _ (mendD_ok nm (readD st nm).1 gs.size) p.2 hp
  generalize firstD (mendD nm (readD st nm).1 gs.size) p.2 = q at hq ⊢
  by_cases h1 : p.1 = 0
  · rw [if_pos h1]
    by_cases h2 : gs.size < (readD st nm).1.size
    · rw [if_pos h2]
      by_cases h3 : q.1 = 0
      · rw [if_pos h3]
        exact hq
      · rw [if_neg h3]
        exact hq
    · rw [if_neg h2]
      exact hp
  · rw [if_neg h1]
    exact hp
theorem mv_celli (a i : Nat) (v : Value) (w : World) : Mv [a] [a] w (w.setCell ⟨a, i, none⟩ v) := (Mv.refl [a] w).set_ (by simp) i v
theorem mv_cell0 (a : Nat) (v : Value) (w : World) : Mv [a] [a] w (w.setCell ⟨a, 0, none⟩ v) := mv_celli a 0 v w
theorem cleanD_ok (dir : ByteArray) (n : Nat) : ∀ (l : List ByteArray) {st : Dk}, st.Ok → (cleanD dir n l st).2.Ok
  | [], _, h => h
  | f :: l, st, h => by
    unfold cleanD
    have h1 := remove_ok h f
    split
    · split
      · exact cleanD_ok dir n l h1
      · exact h1
    · exact cleanD_ok dir n l h
theorem StBlk.there_new {a c n : Nat} {l : Value} {dir base : ByteArray} {br : Bool} {w : World} (h : StBlk a l c dir n base br w) {g c' : Nat} {T : List Nat} {nm : ByteArray} {lg : Lg} (hl : LogAt g c' T nm lg w) : a ∉ T := by
  obtain ⟨v, rfl, h2, h3, h4⟩ := hl
  intro hk
  simp only [List.mem_cons, Option.mem_toList] at hk
  rcases hk with rfl | hk
  · have := (show w.heap[a]? = _ from h).symm.trans h2
    injection this with this
    injection this with _ ht
    exact absurd ht (by decide)
  · rcases h3.2 with ⟨rfl, _⟩ | ⟨g', cap, cur, rfl, _, hh, _⟩
    · simp [Value.ownBlock] at hk
    · obtain rfl : g' = a := by simpa [Value.ownBlock] using hk
      have := (show w.heap[g']? = _ from h).symm.trans hh
      injection this with this
      injection this with _ ht
      exact absurd ht (by decide)
set_option maxHeartbeats 8000000 in
theorem sopen_any (c b : Nat) (dir : ByteArray) (h0 : 0 < dir.size) (h20 : dir.size ≤ 20) (st : Dk) (hok : st.Ok) (htot : totF st.fs ≤ 100000000) (w : World) (hd : DkAt c b st w) (hfind : findN dir (lstS st.fs) 0 ≤ 1000000000000000000) :
    Calls Tryz.prog 6 #[.pointer (some ⟨c, 0, none⟩), .string dir] w (OpenSPost c b dir w (openS dir st)) := by
  have hlc := hd.lt
  have hlb := hd.ltb
  have hd6 : dir.size ≤ 1000000 := by omega
  have hz20 : ¬ (20 : Int) < dir.size := by omega
  have hemp : dir.toList.isEmpty = false := by
    rw [ByteArray.toList_eq]
    have := len_data dir
    cases hl : dir.data.toList with
    | nil => rw [hl] at this; simp at this; omega
    | cons a l => rfl
  have hcl := fun W => Lib.hid (clone_any dir W (by omega))
  have HK := Lib.hid hd
  have HOK := Lib.hid hok
  have HT := Lib.hid htot
  obtain ⟨R, hR⟩ : ∃ R, openS dir st = R := ⟨_, rfl⟩
  rw [hR]
  unfold openS at hR
  obtain ⟨n, hn⟩ : ∃ n, findN dir (lstS st.fs) 0 = n := ⟨_, rfl⟩
  have HF := Lib.hid hn
  rw [hn] at hfind hR
  have HR := Lib.hid hR
  have hn63 : n ≤ 9223372036854775807 := by omega
  clear hd hok htot hn hR
  have QF := fun a W h hk => Lib.hid (find_any a c b (.pointer none) dir ⟨#[]⟩ 0 false st HOK.out hd6 W h hk)
  rw [HF.out] at QF
  go_enter Tryz.func6, Tryz.ntmps6
  go_wp2_with fail
  refine (hcl _).out.mono ?_
  rintro e w1 ⟨rfl, hb1⟩
  have hz1 := hb1.size
  have HK1 := Lib.hid (HK.out.below hb1 hlc hlb)
  have HM1 := Lib.hid ((Mv.refl [c, b] w).then_below hb1)
  clear hb1 hcl
  obtain ⟨a, ha⟩ : ∃ a, w1.heap.size = a := ⟨_, rfl⟩
  obtain ⟨W2, hW2⟩ : ∃ W2, w1.alloc (.cells #[.pointer none, .pointer (some ⟨c, 0, none⟩), .string dir, .int .i64 0, .string ⟨#[]⟩, .bool false] 27) = W2 := ⟨_, rfl⟩
  have HS2 : Hid (StBlk a (.pointer none) c dir 0 ⟨#[]⟩ false W2) := by show StBlk _ _ _ _ _ _ _ _; rw [← hW2, ← ha]; exact heap_alloc_new w1 _
  have HK2 : Hid (DkAt c b st W2) := by show DkAt _ _ _ _; rw [← hW2]; exact HK1.out.alloc _
  have HM2 : Hid (Mv [c, b] [c, b] w W2) := by show Mv _ _ _ _; rw [← hW2]; exact HM1.out.alloc _
  have hac : Hid (w.heap.size ≤ a ∧ a ≠ c ∧ a ≠ b) := by show _ ∧ _ ∧ _; omega
  have q := QF a W2 HS2.out HK2.out
  clear QF
  go_wp2_with fail
  refine q.out.mono ?_
  rintro e w3 ⟨rfl, hs3, hm3⟩
  have HS3 := Lib.hid hs3
  have HM3 : Hid (Mv [c, b] [c, b] w w3) := by
    show Mv _ _ _ _
    exact HM2.out.and_new hm3 (fun k hk => by have := hac.out.1; simp at hk; right; omega)
  have HK3 := Lib.hid (HK2.out.mv hm3 (by have := hac.out; simp; omega) (by have := hac.out; simp; omega))
  have e3 := hs3.cell3
  have e2 := hs3.cell2
  have hal := hs3.lt
  have e3f := hs3.frozen 4
  have e4 := hs3.cell4
  clear hs3 hm3 q HS2 HK2 HM2 HK1 HM1 hW2 ha hz1
  by_cases hn0 : n = 0
  · have hgt : ¬ (0 : Int) < (n : Int) := by omega
    have hbase : baseD dir n st = (0, ⟨#[]⟩) := by unfold baseD; rw [if_pos hn0]
    have hR0 := HR.out
    rw [hbase, if_pos rfl] at hR0
    have HR := Lib.hid hR0
    clear hR0 hbase hn0
    have hlz : (lgB dir n).size ≤ 1000000 := by have h1 := dirL_size dir; have h2 := digB_size' n hn63; show (dirL dir ++ digB n).size ≤ _; rw [size_app']; omega
    have hfz : (fileAt st.fs (lgB dir n)).1.size ≤ 100000000 := by have h1 := fileAt_le HOK.out.good (lgB dir n); have h2 := HT.out; omega
    have f0 := HS3.out.frozen 0
    have x3 := HS3.out.cell3
    have ql := slog_any a n dir hd6 hn63 w3 HS3.out.cell2 HS3.out.lt
    clear hd6
    go_wp2_with fail
    refine ql.mono ?_
    rintro e w6 ⟨rfl, hb6⟩
    have HSY := Lib.hid (HS3.out.below hb6)
    have HKY := Lib.hid (HK3.out.below hb6 HK3.out.lt HK3.out.ltb)
    have HMY := Lib.hid (HM3.out.then_below hb6)
    have qo := open_any c b (lgB dir n) st HOK.out w6 HKY.out hlz hfz
    have hcode := openD_code (lgB dir n) st
    have hok6 := openD_ok HOK.out (lgB dir n)
    have hR2 := HR.out
    unfold openAt at hR2
    obtain ⟨o, ho⟩ : ∃ o, openD (lgB dir n) st = o := ⟨_, rfl⟩
    rw [ho] at qo hcode hok6 hR2
    obtain ⟨o1, o2, o3⟩ := o
    have HOK6 := Lib.hid hok6
    clear ho hok6 hb6 ql hlz hfz f0 x3
    cases o3 with
    | none =>
      have hne := hcode.1 rfl
      have hb0 : (o1 != 0) = true := by simpa using hne
      simp only at hR2
      subst hR2
      clear hcode hne HR HOK6
      go_wp2_with fail
      refine qo.mono ?_
      rintro e w7 ⟨v, rfl, hv, hd7, hm7⟩
      have HK7 := Lib.hid hd7
      have HM7 := Lib.hid (HMY.out.trans hm7)
      clear hv hd7 hm7 qo
      go_wp2
      go_ret2
      exact ⟨_, rfl, rfl, HK7.out, HM7.out⟩
    | some gs =>
      have hz0 := hcode.2 gs rfl
      simp only at hz0
      subst hz0
      have hcl := cleanD_ok dir n (lstS o2.fs) HOK6.out
      simp only at hR2
      have QC := fun l W h hk => Lib.hid (clean_any a c b l dir ⟨#[]⟩ n false o2 HOK6.out (by omega) W h hk hac.out.2.1 hac.out.2.2)
      obtain ⟨q, hq⟩ : ∃ q, cleanD dir n (lstS o2.fs) o2 = q := ⟨_, rfl⟩
      rw [hq] at QC hR2
      obtain ⟨q1, q2⟩ := q
      have HR2 := Lib.hid hR2
      clear hcode HR hq hR2 hcl
      go_wp2_with fail
      refine qo.mono ?_
      rintro e w7 ⟨v, rfl, ⟨g, T, rfl, hl7, hT7⟩, hd7, hm7⟩
      have hs7 : StBlk a (.pointer none) c dir n ⟨#[]⟩ false w7 := HSY.out.mv hm7 (by have := hac.out; simp; omega)
      have haT := hs7.there_new hl7
      have hl8 := hl7.aside (mv_cell0 a (.pointer (some ⟨g, 0, none⟩)) w7) (fun k hk => by intro e; simp at e; subst e; exact haT hk)
      have hd8 : DkAt c b o2 (w7.setCell ⟨a, 0, none⟩ (.pointer (some ⟨g, 0, none⟩))) := hd7.mv (mv_cell0 a _ w7) (by have := hac.out; simp; omega) (by have := hac.out; simp; omega)
      have hs8 := hs7.set0 (.pointer (some ⟨g, 0, none⟩))
      have hm8 : Mv [c, b] [c, b] w (w7.setCell ⟨a, 0, none⟩ (.pointer (some ⟨g, 0, none⟩))) := (HMY.out.trans hm7).and_new (mv_cell0 a _ w7) (fun k hk => by have := hac.out.1; simp at hk; right; omega)
      have hz7 := HMY.out.size
      have HT7 : Hid (∀ k, k ∈ T → w.heap.size ≤ k) := fun k hk => Nat.le_trans hz7 (hT7 k hk)
      have f7 := hs7.frozen 0
      have x7 := hs7.cell0
      obtain ⟨W8, hW8⟩ : ∃ W8, w7.setCell ⟨a, 0, none⟩ (.pointer (some ⟨g, 0, none⟩)) = W8 := ⟨_, rfl⟩
      rw [hW8] at hl8 hd8 hs8 hm8
      have HL8 := Lib.hid hl8
      have HS8 := Lib.hid hs8
      have HM8 := Lib.hid hm8
      have HHT := Lib.hid haT
      have q8 := QC (.pointer (some ⟨g, 0, none⟩)) W8 hs8 hd8
      have hap := hl8.apart hd8
      have HAP := Lib.hid hap
      clear QC hl7 hd7 hm7 hT7 hs7 hl8 hd8 hs8 hm8 qo haT hap
      by_cases hq0 : q1 = 0
      · have hb0 : (q1 != 0) = false := by rw [hq0]; rfl
        have hR3 := HR2.out
        rw [if_pos hq0] at hR3
        subst hR3
        subst hq0
        go_wp2_with fail
        refine q8.out.mono ?_
        rintro e w9 ⟨rfl, hd9, hm9⟩
        have HK9 := Lib.hid hd9
        have HM9 := Lib.hid (HM8.out.trans hm9)
        have HL9 := Lib.hid (HL8.out.aside hm9 (fun k hk => by have := HAP.out k hk; simp; omega))
        have HS9 := Lib.hid (HS8.out.mv hm9 (by have := hac.out; simp; omega))
        clear hd9 hm9 q8 f7 x7
        go_wp2
        go_ret2
        exact ⟨_, rfl, ⟨a, g, T, rfl, ⟨HS9.out, HL9.out, HHT.out⟩, hac.out.1, HT7.out⟩, HK9.out, HM9.out⟩
      · have hb0 : (q1 != 0) = true := by simpa using hq0
        have hR3 := HR2.out
        rw [if_neg hq0] at hR3
        subst hR3
        clear hq0
        go_wp2_with fail
        refine q8.out.mono ?_
        rintro e w9 ⟨rfl, hd9, hm9⟩
        have HK9 := Lib.hid hd9
        have HM9 := Lib.hid (HM8.out.trans hm9)
        clear hd9 hm9 q8 f7 x7
        go_wp2
        go_ret2
        exact ⟨_, rfl, rfl, HK9.out, HM9.out⟩
  · have hgt : (0 : Int) < (n : Int) := by omega
    have hpz : (picB dir n).size ≤ 1000000 := by have h1 := dirS_size dir; have h2 := digB_size' n hn63; show (dirS dir ++ digB n).size ≤ _; rw [size_app']; omega
    have hyz : (fileAt st.fs (picB dir n)).1.size ≤ 100000000 := by have h1 := fileAt_le HOK.out.good (picB dir n); have h2 := HT.out; omega
    have hrz : (readD st (picB dir n)).1.size ≤ 100000000 := by
      unfold readD
      split
      · exact hyz
      · show (0 : Nat) ≤ _; omega
    have qp := picture_any a n dir hd6 hn63 w3 e2 hal
    have QR := fun W h => Lib.hid (read_any c b st HOK.out.good (picB dir n) (by omega) W h)
    have hR0 := HR.out
    unfold baseD at hR0
    rw [if_neg hn0] at hR0
    obtain ⟨r, hr⟩ : ∃ r, readD st (picB dir n) = r := ⟨_, rfl⟩
    rw [hr] at QR hrz hR0
    obtain ⟨y, r2⟩ := r
    simp only at hR0 hrz
    clear hr hyz hn0
    go_wp2_with fail
    refine qp.mono ?_
    rintro e w4 ⟨rfl, hb4⟩
    have HS4 := Lib.hid (HS3.out.below hb4)
    have HK4 := Lib.hid (HK3.out.below hb4 HK3.out.lt HK3.out.ltb)
    have HM4 := Lib.hid (HM3.out.then_below hb4)
    have qr := QR w4 HK4.out
    clear QR qp hb4 hpz e3 e2 hal e3f e4 HS3 HK3 HM3
    by_cases hr2 : r2 = 0
    · have hb2 : (r2 != 0) = false := by rw [hr2]; rfl
      subst hr2
      have qy := fun W => Lib.hid (read_any_ y hrz W)
      obtain ⟨z, hz⟩ : ∃ z, readBA y = z := ⟨_, rfl⟩
      rw [hz] at qy hR0
      obtain ⟨s, is⟩ := z
      simp only at hR0 qy
      clear hz
      cases is
      · simp at hR0
        subst hR0
        go_wp2_with fail
        refine qr.out.mono ?_
        rintro e w5 ⟨rfl, hb5⟩
        have HK5 := Lib.hid (HK4.out.below hb5 HK4.out.lt HK4.out.ltb)
        have HM5 := Lib.hid (HM4.out.then_below hb5)
        clear hb5 qr
        go_wp2_with fail
        refine (qy _).out.mono ?_
        rintro e w6 ⟨rfl, hb6⟩
        have HK6 := Lib.hid (HK5.out.below hb6 HK5.out.lt HK5.out.ltb)
        have HM6 := Lib.hid (HM5.out.then_below hb6)
        clear hb6 qy
        go_wp2
        go_ret2
        exact ⟨_, rfl, rfl, HK6.out, HM6.out⟩
      · simp at hR0
        have HR := Lib.hid hR0
        clear hR0
        go_wp2_with fail
        refine qr.out.mono ?_
        rintro e w5 ⟨rfl, hb5⟩
        have HS5 := Lib.hid (HS4.out.below hb5)
        have HK5 := Lib.hid (HK4.out.below hb5 HK4.out.lt HK4.out.ltb)
        have HM5 := Lib.hid (HM4.out.then_below hb5)
        clear hb5 qr
        go_wp2_with fail
        refine (qy _).out.mono ?_
        rintro e w6' ⟨rfl, hb6⟩
        have hs6 := HS5.out.below hb6
        have hk6 := HK5.out.below hb6 HK5.out.lt HK5.out.ltb
        have hm6 := HM5.out.then_below hb6
        have f4 := hs6.frozen 4
        have e4 := hs6.cell4
        have hs7 := hs6.set4 s
        have hk7 : DkAt c b st (w6'.setCell ⟨a, 4, none⟩ (.string s)) := hk6.mv (mv_celli a 4 _ w6') (by have := hac.out; simp; omega) (by have := hac.out; simp; omega)
        have hm7 : Mv [c, b] [c, b] w (w6'.setCell ⟨a, 4, none⟩ (.string s)) := hm6.and_new (mv_celli a 4 _ w6') (fun k hk => by have := hac.out.1; simp at hk; right; omega)
        obtain ⟨X, hX⟩ : ∃ X, w6'.setCell ⟨a, 4, none⟩ (.string s) = X := ⟨_, rfl⟩
        rw [hX] at hs7 hk7 hm7
        have HS7 := Lib.hid hs7
        have HK7 := Lib.hid hk7
        have HM7 := Lib.hid hm7
        have e3 := hs7.cell3
        clear hb6 qy hs6 hk6 hm6 hs7 hk7 hm7 HS5 HK5 HM5 HS4 HK4 HM4
        have hlz : (lgB dir n).size ≤ 1000000 := by have h1 := dirL_size dir; have h2 := digB_size' n hn63; show (dirL dir ++ digB n).size ≤ _; rw [size_app']; omega
        have hfz : (fileAt st.fs (lgB dir n)).1.size ≤ 100000000 := by have h1 := fileAt_le HOK.out.good (lgB dir n); have h2 := HT.out; omega
        have f0 := HS7.out.frozen 0
        have x3 := HS7.out.cell3
        have ql := slog_any a n dir hd6 hn63 X HS7.out.cell2 HS7.out.lt
        clear hd6
        go_wp2_with fail
        refine ql.mono ?_
        rintro e w6 ⟨rfl, hb6⟩
        have HSY := Lib.hid (HS7.out.below hb6)
        have HKY := Lib.hid (HK7.out.below hb6 HK7.out.lt HK7.out.ltb)
        have HMY := Lib.hid (HM7.out.then_below hb6)
        have qo := open_any c b (lgB dir n) st HOK.out w6 HKY.out hlz hfz
        have hcode := openD_code (lgB dir n) st
        have hok6 := openD_ok HOK.out (lgB dir n)
        have hR2 := HR.out
        unfold openAt at hR2
        obtain ⟨o, ho⟩ : ∃ o, openD (lgB dir n) st = o := ⟨_, rfl⟩
        rw [ho] at qo hcode hok6 hR2
        obtain ⟨o1, o2, o3⟩ := o
        have HOK6 := Lib.hid hok6
        clear ho hok6 hb6 ql hlz hfz f0 x3
        cases o3 with
        | none =>
          have hne := hcode.1 rfl
          have hb0 : (o1 != 0) = true := by simpa using hne
          simp only at hR2
          subst hR2
          clear hcode hne HR HOK6
          go_wp2_with fail
          refine qo.mono ?_
          rintro e w7 ⟨v, rfl, hv, hd7, hm7⟩
          have HK7 := Lib.hid hd7
          have HM7 := Lib.hid (HMY.out.trans hm7)
          clear hv hd7 hm7 qo
          go_wp2
          go_ret2
          exact ⟨_, rfl, rfl, HK7.out, HM7.out⟩
        | some gs =>
          have hz0 := hcode.2 gs rfl
          simp only at hz0
          subst hz0
          have hcl := cleanD_ok dir n (lstS o2.fs) HOK6.out
          simp only at hR2
          have QC := fun l W h hk => Lib.hid (clean_any a c b l dir s n false o2 HOK6.out (by omega) W h hk hac.out.2.1 hac.out.2.2)
          obtain ⟨q, hq⟩ : ∃ q, cleanD dir n (lstS o2.fs) o2 = q := ⟨_, rfl⟩
          rw [hq] at QC hR2
          obtain ⟨q1, q2⟩ := q
          have HR2 := Lib.hid hR2
          clear hcode HR hq hR2 hcl
          go_wp2_with fail
          refine qo.mono ?_
          rintro e w7 ⟨v, rfl, ⟨g, T, rfl, hl7, hT7⟩, hd7, hm7⟩
          have hs7 : StBlk a (.pointer none) c dir n s false w7 := HSY.out.mv hm7 (by have := hac.out; simp; omega)
          have haT := hs7.there_new hl7
          have hl8 := hl7.aside (mv_cell0 a (.pointer (some ⟨g, 0, none⟩)) w7) (fun k hk => by intro e; simp at e; subst e; exact haT hk)
          have hd8 : DkAt c b o2 (w7.setCell ⟨a, 0, none⟩ (.pointer (some ⟨g, 0, none⟩))) := hd7.mv (mv_cell0 a _ w7) (by have := hac.out; simp; omega) (by have := hac.out; simp; omega)
          have hs8 := hs7.set0 (.pointer (some ⟨g, 0, none⟩))
          have hm8 : Mv [c, b] [c, b] w (w7.setCell ⟨a, 0, none⟩ (.pointer (some ⟨g, 0, none⟩))) := (HMY.out.trans hm7).and_new (mv_cell0 a _ w7) (fun k hk => by have := hac.out.1; simp at hk; right; omega)
          have hz7 := HMY.out.size
          have HT7 : Hid (∀ k, k ∈ T → w.heap.size ≤ k) := fun k hk => Nat.le_trans hz7 (hT7 k hk)
          have f7 := hs7.frozen 0
          have x7 := hs7.cell0
          obtain ⟨W8, hW8⟩ : ∃ W8, w7.setCell ⟨a, 0, none⟩ (.pointer (some ⟨g, 0, none⟩)) = W8 := ⟨_, rfl⟩
          rw [hW8] at hl8 hd8 hs8 hm8
          have HL8 := Lib.hid hl8
          have HS8 := Lib.hid hs8
          have HM8 := Lib.hid hm8
          have HHT := Lib.hid haT
          have q8 := QC (.pointer (some ⟨g, 0, none⟩)) W8 hs8 hd8
          have hap := hl8.apart hd8
          have HAP := Lib.hid hap
          clear QC hl7 hd7 hm7 hT7 hs7 hl8 hd8 hs8 hm8 qo haT hap
          by_cases hq0 : q1 = 0
          · have hb0 : (q1 != 0) = false := by rw [hq0]; rfl
            have hR3 := HR2.out
            rw [if_pos hq0] at hR3
            subst hR3
            subst hq0
            go_wp2_with fail
            refine q8.out.mono ?_
            rintro e w9 ⟨rfl, hd9, hm9⟩
            have HK9 := Lib.hid hd9
            have HM9 := Lib.hid (HM8.out.trans hm9)
            have HL9 := Lib.hid (HL8.out.aside hm9 (fun k hk => by have := HAP.out k hk; simp; omega))
            have HS9 := Lib.hid (HS8.out.mv hm9 (by have := hac.out; simp; omega))
            clear hd9 hm9 q8 f7 x7
            go_wp2
            go_ret2
            exact ⟨_, rfl, ⟨a, g, T, rfl, ⟨HS9.out, HL9.out, HHT.out⟩, hac.out.1, HT7.out⟩, HK9.out, HM9.out⟩
          · have hb0 : (q1 != 0) = true := by simpa using hq0
            have hR3 := HR2.out
            rw [if_neg hq0] at hR3
            subst hR3
            clear hq0
            go_wp2_with fail
            refine q8.out.mono ?_
            rintro e w9 ⟨rfl, hd9, hm9⟩
            have HK9 := Lib.hid hd9
            have HM9 := Lib.hid (HM8.out.trans hm9)
            clear hd9 hm9 q8 f7 x7
            go_wp2
            go_ret2
            exact ⟨_, rfl, rfl, HK9.out, HM9.out⟩
    · have hb2 : (r2 != 0) = true := by simpa using hr2
      simp [hr2] at hR0
      subst hR0
      clear hr2
      go_wp2_with fail
      refine qr.out.mono ?_
      rintro e w5 ⟨rfl, hb5⟩
      have HK5 := Lib.hid (HK4.out.below hb5 HK4.out.lt HK4.out.ltb)
      have HM5 := Lib.hid (HM4.out.then_below hb5)
      clear hb5 qr
      go_wp2
      go_ret2
      exact ⟨_, rfl, rfl, HK5.out, HM5.out⟩
end Go.Proofs.YtjhinifmdjlblaaGreat
