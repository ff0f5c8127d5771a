/-
  Package wal: Open as a contract.
  Conditions: a disk that the call has made; a name that is in memory; a file of at most 10^8 bytes.
-/
import Derived.Test.YtfmbadinfhpihaaGreatWal6
set_option linter.unusedVariables false
set_option linter.unusedSimpArgs false
namespace Go.Proofs.YtfmbadinfhpihaaGreat
open Go.RowKit Go.Maps
set_option maxRecDepth 100000

def openD (nm : ByteArray) (st : Dk) : Int × Dk × Option Wal.Gs :=
  if (if (readD st nm).2 = 7 then createD st nm else ((readD st nm).2, st)).1 = 0 then
    if (Wal.goodOf (readD st nm).1.data.toList).size < (readD st nm).1.size then
      if (firstD (mendD nm (readD st nm).1 (Wal.goodOf (readD st nm).1.data.toList).size) (if (readD st nm).2 = 7 then createD st nm else ((readD st nm).2, st)).2).1 = 0 then (0, (firstD (mendD nm (readD st nm).1 (Wal.goodOf (readD st nm).1.data.toList).size) (if (readD st nm).2 = 7 then createD st nm else ((readD st nm).2, st)).2).2, some (Wal.goodOf (readD st nm).1.data.toList))
      else ((firstD (mendD nm (readD st nm).1 (Wal.goodOf (readD st nm).1.data.toList).size) (if (readD st nm).2 = 7 then createD st nm else ((readD st nm).2, st)).2).1, (firstD (mendD nm (readD st nm).1 (Wal.goodOf (readD st nm).1.data.toList).size) (if (readD st nm).2 = 7 then createD st nm else ((readD st nm).2, st)).2).2, none)
    else (0, (if (readD st nm).2 = 7 then createD st nm else ((readD st nm).2, st)).2, some (Wal.goodOf (readD st nm).1.data.toList))
  else ((if (readD st nm).2 = 7 then createD st nm else ((readD st nm).2, st)).1, (if (readD st nm).2 = 7 then createD st nm else ((readD st nm).2, st)).2, none)
/-- What Open hands back: a new log, or none. -/
def LogBack (c B : Nat) (nm : ByteArray) (w' : World) (v : Value) : Option Wal.Gs → Prop
  | none => v = .pointer none
  | some gs => ∃ g T, v = .pointer (some ⟨g, 0, none⟩) ∧ LogAt g c T nm (lgOf gs false) w' ∧ ∀ k, k ∈ T → B ≤ k
theorem log_new (w : World) (c : Nat) (nm : ByteArray) : LogAt w.heap.size c [w.heap.size] nm (lgOf Wal.none_ false) (w.alloc (.cells #[.pointer (some ⟨c, 0, none⟩), .string nm, .slice none 0 0, .int .i64 0, .int .i64 0, .bool false] 27)) :=
  ⟨.slice none 0 0, by simp [Value.ownBlock], heap_alloc_new w _, World.ownsRow_nil _ _ _ _, by simp [Value.ownBlock]⟩
def OpenPost (c b : Nat) (nm : ByteArray) (w : World) (r : Int × Dk × Option Wal.Gs) (e : Ending) (w' : World) : Prop :=
  ∃ v, e = .returned (.tuple #[v, .int .i64 r.1]) ∧ LogBack c w.heap.size nm w' v r.2.2 ∧ DkAt c b r.2.1 w' ∧ Mv [c, b] [c, b] w w'
set_option maxHeartbeats 4000000 in
theorem open_any (c b : Nat) (nm : ByteArray) (st : Dk) (hok : st.Ok) (w : World) (hd : DkAt c b st w) (hn : nm.size ≤ 1000000) (hf : (fileAt st.fs nm).1.size ≤ 100000000) :
    Calls Tryz.prog 10 #[.pointer (some ⟨c, 0, none⟩), .string nm] w (OpenPost c b nm w (openD nm st)) := by
  have hlc := hd.lt
  have hlb := hd.ltb
  have q1 := fun W (h : DkAt c b st W) => Lib.hid (read_any c b st hok.good nm (by omega) W h)
  have q2 := fun W (h : DkAt c b st W) => Lib.hid (create_any c b st hok nm (by omega) W h)
  have hc2 := create_ok hok nm
  have hr0 : (readD st nm).1.size ≤ 100000000 := by
    unfold readD
    split
    · exact hf
    · show (0 : Nat) ≤ _; omega
  have HK := Lib.hid hd
  unfold openD
  obtain ⟨r, hr⟩ : ∃ r, readD st nm = r := ⟨_, rfl⟩
  rw [hr] at q1 hr0 ⊢
  obtain ⟨y, r2⟩ := r
  obtain ⟨cr, hcr⟩ : ∃ cr, createD st nm = cr := ⟨_, rfl⟩
  rw [hcr] at q2 hc2 ⊢
  obtain ⟨c1, st1⟩ := cr
  simp only at hr0 q1 q2 hc2 ⊢
  have hgs := Wal.goodOf_size y.data.toList
  rw [len_data] at hgs
  have q3 := fun (g : Nat) (T : List Nat) (W : World) (h : LogAt g c T nm (lgOf Wal.none_ false) W) => Lib.hid (good_any g c T nm false y hr0 W h)
  have q4 := fun (s : Dk) (ok : s.Ok) (g : Nat) (T : List Nat) (W : World) (h : LogAt g c T nm (lgOf (Wal.goodOf y.data.toList) false) W) (h2 : DkAt c b s W) (hc : g ≠ c) (hb : g ≠ b) => Lib.hid (mend_any g c b T nm _ s ok y W h h2 hc hb hn (by omega) hgs)
  change ∀ (s : Dk) (ok : s.Ok) (g : Nat) (T : List Nat) (W : World) (h : LogAt g c T nm (lgOf (Wal.goodOf y.data.toList) false) W) (h2 : DkAt c b s W) (hc : g ≠ c) (hb : g ≠ b), Hid (Calls Tryz.prog 41 #[.pointer (some ⟨g, 0, none⟩), .string y] W fun e w' => e = .returned (.int .i64 (firstD (mendD nm y (Wal.goodOf y.data.toList).size) s).1) ∧ DkAt c b (firstD (mendD nm y (Wal.goodOf y.data.toList).size) s).2 w' ∧ Mv [c, b] [c, b] W w') at q4
  obtain ⟨gs, hgg⟩ : ∃ gs, Wal.goodOf y.data.toList = gs := ⟨_, rfl⟩
  rw [hgg] at q3 q4 hgs ⊢
  have HOK := Lib.hid hok
  have HOK1 := Lib.hid hc2
  have hcl := fun W => clone_any nm W (by omega)
  have Q1 := Lib.hid q1; have Q2 := Lib.hid q2; have Q3 := Lib.hid q3; have Q4 := Lib.hid q4; have QC := Lib.hid hcl
  clear hr hcr hgg hd hf hok hc2 q1 q2 q3 q4 hcl
  by_cases h7 : r2 = 7
  · subst h7
    rw [if_pos rfl]
    simp only
    by_cases h0 : c1 = 0
    · subst h0
      rw [if_pos rfl]
      by_cases hsz : gs.size < y.size
      · rw [if_pos hsz]
        obtain ⟨m, hm⟩ : ∃ m, firstD (mendD nm y gs.size) st1 = m := ⟨_, rfl⟩
        have Q5 := Lib.hid (Q4.out st1 HOK1.out)
        rw [hm] at Q5 ⊢
        clear hm
        obtain ⟨m1, st2⟩ := m
        have hlt1 : decide ((gs.size : Int) < (y.size : Int)) = true := by simpa using hsz
        by_cases hm0 : m1 = 0
        · subst hm0
          rw [if_pos rfl]
          go_enter Tryz.func10, Tryz.ntmps10
          go_wp2_with fail
          refine (QC.out _).mono ?_
          rintro e w1 ⟨rfl, hb1⟩
          have hz1 := hb1.size
          have HL2 := Lib.hid (log_new w1 c nm)
          have HK2 := Lib.hid ((HK.out.below hb1 hlc hlb).alloc (.cells #[.pointer (some ⟨c, 0, none⟩), .string nm, .slice none 0 0, .int .i64 0, .int .i64 0, .bool false] 27))
          have HM2 := Lib.hid (((Mv.refl [c, b] w).then_below hb1).alloc (.cells #[.pointer (some ⟨c, 0, none⟩), .string nm, .slice none 0 0, .int .i64 0, .int .i64 0, .bool false] 27))
          have q := Q1.out _ HK2.out
          clear hb1
          go_wp2_with fail
          refine q.out.mono ?_
          rintro e w3 ⟨rfl, hb3⟩
          have HL3 := Lib.hid (HL2.out.below hb3)
          have HK3 := Lib.hid (HK2.out.below hb3 HK2.out.lt HK2.out.ltb)
          have HM3 := Lib.hid (HM2.out.then_below hb3)
          clear q hb3 HL2 HK2 HM2
          have q := Q2.out _ HK3.out
          go_wp2_with fail
          refine q.out.mono ?_
          rintro e w4 ⟨rfl, h4, hm4⟩
          have HL4 := Lib.hid (HL3.out.aside hm4 (by simp; omega))
          have HK4 := Lib.hid h4
          have HM4 := Lib.hid (HM3.out.trans hm4)
          clear q h4 hm4 HL3 HK3 HM3
          have q := Q3.out _ _ _ HL4.out
          go_wp2_with fail
          refine q.out.mono ?_
          rintro e w5 ⟨rfl, T5, h5, hm5⟩
          have hT5 : ∀ k, k ∈ T5 → w.heap.size ≤ k := fun k hk => by
            rcases hm5.link k hk with h | h
            · have : k = w1.heap.size := by simpa using h
              omega
            · have := HM4.out.size; omega
          have HK5 := Lib.hid (HK4.out.mv hm5 (by simp; omega) (by simp; omega))
          have HM5 : Hid (Mv [c, b] [c, b] w w5) := by
            show Mv _ _ _ _
            refine ⟨hm5.os.trans HM4.out.os, hm5.tape.trans HM4.out.tape, hm5.output.trans HM4.out.output, Nat.le_trans HM4.out.size hm5.size, fun k hk hn => (hm5.block k (Nat.lt_of_lt_of_le hk HM4.out.size) (by simp; omega)).trans (HM4.out.block k hk hn), fun k h => .inl h⟩
          have HL5 := Lib.hid h5
          have HT5 := Lib.hid hT5
          have c4 := h5.cell4
          clear q h5 hm5 hT5 HL4 HK4 HM4
          have q := Q5.out _ _ _ HL5.out HK5.out (by omega) (by omega)
          go_wp2_with fail
          refine q.out.mono ?_
          rintro e w6 ⟨rfl, h6, hm6⟩
          have HK6 := Lib.hid h6
          have HM6 := Lib.hid (HM5.out.trans hm6)
          have HL6 := Lib.hid (HL5.out.aside hm6 (fun k hk => by have := HT5.out k hk; simp; omega))
          clear q h6 hm6 HK5 HM5 HL5
          go_wp2
          go_ret2
          exact ⟨_, rfl, ⟨_, _, rfl, HL6.out, HT5.out⟩, HK6.out, HM6.out⟩
        · have hm1 : (m1 != 0) = true := by simpa using hm0
          rw [if_neg hm0]
          go_enter Tryz.func10, Tryz.ntmps10
          go_wp2_with fail
          refine (QC.out _).mono ?_
          rintro e w1 ⟨rfl, hb1⟩
          have hz1 := hb1.size
          have HL2 := Lib.hid (log_new w1 c nm)
          have HK2 := Lib.hid ((HK.out.below hb1 hlc hlb).alloc (.cells #[.pointer (some ⟨c, 0, none⟩), .string nm, .slice none 0 0, .int .i64 0, .int .i64 0, .bool false] 27))
          have HM2 := Lib.hid (((Mv.refl [c, b] w).then_below hb1).alloc (.cells #[.pointer (some ⟨c, 0, none⟩), .string nm, .slice none 0 0, .int .i64 0, .int .i64 0, .bool false] 27))
          have q := Q1.out _ HK2.out
          clear hb1
          go_wp2_with fail
          refine q.out.mono ?_
          rintro e w3 ⟨rfl, hb3⟩
          have HL3 := Lib.hid (HL2.out.below hb3)
          have HK3 := Lib.hid (HK2.out.below hb3 HK2.out.lt HK2.out.ltb)
          have HM3 := Lib.hid (HM2.out.then_below hb3)
          clear q hb3 HL2 HK2 HM2
          have q := Q2.out _ HK3.out
          go_wp2_with fail
          refine q.out.mono ?_
          rintro e w4 ⟨rfl, h4, hm4⟩
          have HL4 := Lib.hid (HL3.out.aside hm4 (by simp; omega))
          have HK4 := Lib.hid h4
          have HM4 := Lib.hid (HM3.out.trans hm4)
          clear q h4 hm4 HL3 HK3 HM3
          have q := Q3.out _ _ _ HL4.out
          go_wp2_with fail
          refine q.out.mono ?_
          rintro e w5 ⟨rfl, T5, h5, hm5⟩
          have hT5 : ∀ k, k ∈ T5 → w.heap.size ≤ k := fun k hk => by
            rcases hm5.link k hk with h | h
            · have : k = w1.heap.size := by simpa using h
              omega
            · have := HM4.out.size; omega
          have HK5 := Lib.hid (HK4.out.mv hm5 (by simp; omega) (by simp; omega))
          have HM5 : Hid (Mv [c, b] [c, b] w w5) := by
            show Mv _ _ _ _
            refine ⟨hm5.os.trans HM4.out.os, hm5.tape.trans HM4.out.tape, hm5.output.trans HM4.out.output, Nat.le_trans HM4.out.size hm5.size, fun k hk hn => (hm5.block k (Nat.lt_of_lt_of_le hk HM4.out.size) (by simp; omega)).trans (HM4.out.block k hk hn), fun k h => .inl h⟩
          have HL5 := Lib.hid h5
          have HT5 := Lib.hid hT5
          have c4 := h5.cell4
          clear q h5 hm5 hT5 HL4 HK4 HM4
          have q := Q5.out _ _ _ HL5.out HK5.out (by omega) (by omega)
          go_wp2_with fail
          refine q.out.mono ?_
          rintro e w6 ⟨rfl, h6, hm6⟩
          have HK6 := Lib.hid h6
          have HM6 := Lib.hid (HM5.out.trans hm6)
          clear q h6 hm6 HK5 HM5 HL5
          go_wp2
          go_ret2
          exact ⟨_, rfl, rfl, HK6.out, HM6.out⟩
      · rw [if_neg hsz]
        have hlt1 : decide ((gs.size : Int) < (y.size : Int)) = false := by simp; omega
        go_enter Tryz.func10, Tryz.ntmps10
        go_wp2_with fail
        refine (QC.out _).mono ?_
        rintro e w1 ⟨rfl, hb1⟩
        have hz1 := hb1.size
        have HL2 := Lib.hid (log_new w1 c nm)
        have HK2 := Lib.hid ((HK.out.below hb1 hlc hlb).alloc (.cells #[.pointer (some ⟨c, 0, none⟩), .string nm, .slice none 0 0, .int .i64 0, .int .i64 0, .bool false] 27))
        have HM2 := Lib.hid (((Mv.refl [c, b] w).then_below hb1).alloc (.cells #[.pointer (some ⟨c, 0, none⟩), .string nm, .slice none 0 0, .int .i64 0, .int .i64 0, .bool false] 27))
        have q := Q1.out _ HK2.out
        clear hb1
        go_wp2_with fail
        refine q.out.mono ?_
        rintro e w3 ⟨rfl, hb3⟩
        have HL3 := Lib.hid (HL2.out.below hb3)
        have HK3 := Lib.hid (HK2.out.below hb3 HK2.out.lt HK2.out.ltb)
        have HM3 := Lib.hid (HM2.out.then_below hb3)
        clear q hb3 HL2 HK2 HM2
        have q := Q2.out _ HK3.out
        go_wp2_with fail
        refine q.out.mono ?_
        rintro e w4 ⟨rfl, h4, hm4⟩
        have HL4 := Lib.hid (HL3.out.aside hm4 (by simp; omega))
        have HK4 := Lib.hid h4
        have HM4 := Lib.hid (HM3.out.trans hm4)
        clear q h4 hm4 HL3 HK3 HM3
        have q := Q3.out _ _ _ HL4.out
        go_wp2_with fail
        refine q.out.mono ?_
        rintro e w5 ⟨rfl, T5, h5, hm5⟩
        have hT5 : ∀ k, k ∈ T5 → w.heap.size ≤ k := fun k hk => by
          rcases hm5.link k hk with h | h
          · have : k = w1.heap.size := by simpa using h
            omega
          · have := HM4.out.size; omega
        have HK5 := Lib.hid (HK4.out.mv hm5 (by simp; omega) (by simp; omega))
        have HM5 : Hid (Mv [c, b] [c, b] w w5) := by
          show Mv _ _ _ _
          refine ⟨hm5.os.trans HM4.out.os, hm5.tape.trans HM4.out.tape, hm5.output.trans HM4.out.output, Nat.le_trans HM4.out.size hm5.size, fun k hk hn => (hm5.block k (Nat.lt_of_lt_of_le hk HM4.out.size) (by simp; omega)).trans (HM4.out.block k hk hn), fun k h => .inl h⟩
        have HL5 := Lib.hid h5
        have HT5 := Lib.hid hT5
        have c4 := h5.cell4
        clear q h5 hm5 hT5 HL4 HK4 HM4
        go_wp2
        go_ret2
        exact ⟨_, rfl, ⟨_, _, rfl, HL5.out, HT5.out⟩, HK5.out, HM5.out⟩
    · rw [if_neg h0]
      have hb0 : (c1 != 0) = true := by simpa using h0
      go_enter Tryz.func10, Tryz.ntmps10
      go_wp2_with fail
      refine (QC.out _).mono ?_
      rintro e w1 ⟨rfl, hb1⟩
      have hz1 := hb1.size
      have HL2 := Lib.hid (log_new w1 c nm)
      have HK2 := Lib.hid ((HK.out.below hb1 hlc hlb).alloc (.cells #[.pointer (some ⟨c, 0, none⟩), .string nm, .slice none 0 0, .int .i64 0, .int .i64 0, .bool false] 27))
      have HM2 := Lib.hid (((Mv.refl [c, b] w).then_below hb1).alloc (.cells #[.pointer (some ⟨c, 0, none⟩), .string nm, .slice none 0 0, .int .i64 0, .int .i64 0, .bool false] 27))
      have q := Q1.out _ HK2.out
      clear hb1
      go_wp2_with fail
      refine q.out.mono ?_
      rintro e w3 ⟨rfl, hb3⟩
      have HL3 := Lib.hid (HL2.out.below hb3)
      have HK3 := Lib.hid (HK2.out.below hb3 HK2.out.lt HK2.out.ltb)
      have HM3 := Lib.hid (HM2.out.then_below hb3)
      clear q hb3 HL2 HK2 HM2
      have q := Q2.out _ HK3.out
      go_wp2_with fail
      refine q.out.mono ?_
      rintro e w4 ⟨rfl, h4, hm4⟩
      have HL4 := Lib.hid (HL3.out.aside hm4 (by simp; omega))
      have HK4 := Lib.hid h4
      have HM4 := Lib.hid (HM3.out.trans hm4)
      clear q h4 hm4 HL3 HK3 HM3
      go_wp2
      go_ret2
      exact ⟨_, rfl, rfl, HK4.out, HM4.out⟩
  · rw [if_neg h7]
    simp only
    have hb7 : (r2 == 7) = false := beq_false_of_ne h7
    by_cases h0 : r2 = 0
    · subst h0
      rw [if_pos rfl]
      by_cases hsz : gs.size < y.size
      · rw [if_pos hsz]
        obtain ⟨m, hm⟩ : ∃ m, firstD (mendD nm y gs.size) st = m := ⟨_, rfl⟩
        have Q5 := Lib.hid (Q4.out st HOK.out)
        rw [hm] at Q5 ⊢
        clear hm
        obtain ⟨m1, st2⟩ := m
        have hlt1 : decide ((gs.size : Int) < (y.size : Int)) = true := by simpa using hsz
        by_cases hm0 : m1 = 0
        · subst hm0
          rw [if_pos rfl]
          go_enter Tryz.func10, Tryz.ntmps10
          go_wp2_with fail
          refine (QC.out _).mono ?_
          rintro e w1 ⟨rfl, hb1⟩
          have hz1 := hb1.size
          have HL2 := Lib.hid (log_new w1 c nm)
          have HK2 := Lib.hid ((HK.out.below hb1 hlc hlb).alloc (.cells #[.pointer (some ⟨c, 0, none⟩), .string nm, .slice none 0 0, .int .i64 0, .int .i64 0, .bool false] 27))
          have HM2 := Lib.hid (((Mv.refl [c, b] w).then_below hb1).alloc (.cells #[.pointer (some ⟨c, 0, none⟩), .string nm, .slice none 0 0, .int .i64 0, .int .i64 0, .bool false] 27))
          have q := Q1.out _ HK2.out
          clear hb1
          go_wp2_with fail
          refine q.out.mono ?_
          rintro e w3 ⟨rfl, hb3⟩
          have HL3 := Lib.hid (HL2.out.below hb3)
          have HK3 := Lib.hid (HK2.out.below hb3 HK2.out.lt HK2.out.ltb)
          have HM3 := Lib.hid (HM2.out.then_below hb3)
          clear q hb3 HL2 HK2 HM2
          have HL4 := HL3; have HK4 := HK3; have HM4 := HM3
          clear HL3 HK3 HM3
          have q := Q3.out _ _ _ HL4.out
          go_wp2_with fail
          refine q.out.mono ?_
          rintro e w5 ⟨rfl, T5, h5, hm5⟩
          have hT5 : ∀ k, k ∈ T5 → w.heap.size ≤ k := fun k hk => by
            rcases hm5.link k hk with h | h
            · have : k = w1.heap.size := by simpa using h
              omega
            · have := HM4.out.size; omega
          have HK5 := Lib.hid (HK4.out.mv hm5 (by simp; omega) (by simp; omega))
          have HM5 : Hid (Mv [c, b] [c, b] w w5) := by
            show Mv _ _ _ _
            refine ⟨hm5.os.trans HM4.out.os, hm5.tape.trans HM4.out.tape, hm5.output.trans HM4.out.output, Nat.le_trans HM4.out.size hm5.size, fun k hk hn => (hm5.block k (Nat.lt_of_lt_of_le hk HM4.out.size) (by simp; omega)).trans (HM4.out.block k hk hn), fun k h => .inl h⟩
          have HL5 := Lib.hid h5
          have HT5 := Lib.hid hT5
          have c4 := h5.cell4
          clear q h5 hm5 hT5 HL4 HK4 HM4
          have q := Q5.out _ _ _ HL5.out HK5.out (by omega) (by omega)
          go_wp2_with fail
          refine q.out.mono ?_
          rintro e w6 ⟨rfl, h6, hm6⟩
          have HK6 := Lib.hid h6
          have HM6 := Lib.hid (HM5.out.trans hm6)
          have HL6 := Lib.hid (HL5.out.aside hm6 (fun k hk => by have := HT5.out k hk; simp; omega))
          clear q h6 hm6 HK5 HM5 HL5
          go_wp2
          go_ret2
          exact ⟨_, rfl, ⟨_, _, rfl, HL6.out, HT5.out⟩, HK6.out, HM6.out⟩
        · have hm1 : (m1 != 0) = true := by simpa using hm0
          rw [if_neg hm0]
          go_enter Tryz.func10, Tryz.ntmps10
          go_wp2_with fail
          refine (QC.out _).mono ?_
          rintro e w1 ⟨rfl, hb1⟩
          have hz1 := hb1.size
          have HL2 := Lib.hid (log_new w1 c nm)
          have HK2 := Lib.hid ((HK.out.below hb1 hlc hlb).alloc (.cells #[.pointer (some ⟨c, 0, none⟩), .string nm, .slice none 0 0, .int .i64 0, .int .i64 0, .bool false] 27))
          have HM2 := Lib.hid (((Mv.refl [c, b] w).then_below hb1).alloc (.cells #[.pointer (some ⟨c, 0, none⟩), .string nm, .slice none 0 0, .int .i64 0, .int .i64 0, .bool false] 27))
          have q := Q1.out _ HK2.out
          clear hb1
          go_wp2_with fail
          refine q.out.mono ?_
          rintro e w3 ⟨rfl, hb3⟩
          have HL3 := Lib.hid (HL2.out.below hb3)
          have HK3 := Lib.hid (HK2.out.below hb3 HK2.out.lt HK2.out.ltb)
          have HM3 := Lib.hid (HM2.out.then_below hb3)
          clear q hb3 HL2 HK2 HM2
          have HL4 := HL3; have HK4 := HK3; have HM4 := HM3
          clear HL3 HK3 HM3
          have q := Q3.out _ _ _ HL4.out
          go_wp2_with fail
          refine q.out.mono ?_
          rintro e w5 ⟨rfl, T5, h5, hm5⟩
          have hT5 : ∀ k, k ∈ T5 → w.heap.size ≤ k := fun k hk => by
            rcases hm5.link k hk with h | h
            · have : k = w1.heap.size := by simpa using h
              omega
            · have := HM4.out.size; omega
          have HK5 := Lib.hid (HK4.out.mv hm5 (by simp; omega) (by simp; omega))
          have HM5 : Hid (Mv [c, b] [c, b] w w5) := by
            show Mv _ _ _ _
            refine ⟨hm5.os.trans HM4.out.os, hm5.tape.trans HM4.out.tape, hm5.output.trans HM4.out.output, Nat.le_trans HM4.out.size hm5.size, fun k hk hn => (hm5.block k (Nat.lt_of_lt_of_le hk HM4.out.size) (by simp; omega)).trans (HM4.out.block k hk hn), fun k h => .inl h⟩
          have HL5 := Lib.hid h5
          have HT5 := Lib.hid hT5
          have c4 := h5.cell4
          clear q h5 hm5 hT5 HL4 HK4 HM4
          have q := Q5.out _ _ _ HL5.out HK5.out (by omega) (by omega)
          go_wp2_with fail
          refine q.out.mono ?_
          rintro e w6 ⟨rfl, h6, hm6⟩
          have HK6 := Lib.hid h6
          have HM6 := Lib.hid (HM5.out.trans hm6)
          clear q h6 hm6 HK5 HM5 HL5
          go_wp2
          go_ret2
          exact ⟨_, rfl, rfl, HK6.out, HM6.out⟩
      · rw [if_neg hsz]
        have hlt1 : decide ((gs.size : Int) < (y.size : Int)) = false := by simp; omega
        go_enter Tryz.func10, Tryz.ntmps10
        go_wp2_with fail
        refine (QC.out _).mono ?_
        rintro e w1 ⟨rfl, hb1⟩
        have hz1 := hb1.size
        have HL2 := Lib.hid (log_new w1 c nm)
        have HK2 := Lib.hid ((HK.out.below hb1 hlc hlb).alloc (.cells #[.pointer (some ⟨c, 0, none⟩), .string nm, .slice none 0 0, .int .i64 0, .int .i64 0, .bool false] 27))
        have HM2 := Lib.hid (((Mv.refl [c, b] w).then_below hb1).alloc (.cells #[.pointer (some ⟨c, 0, none⟩), .string nm, .slice none 0 0, .int .i64 0, .int .i64 0, .bool false] 27))
        have q := Q1.out _ HK2.out
        clear hb1
        go_wp2_with fail
        refine q.out.mono ?_
        rintro e w3 ⟨rfl, hb3⟩
        have HL3 := Lib.hid (HL2.out.below hb3)
        have HK3 := Lib.hid (HK2.out.below hb3 HK2.out.lt HK2.out.ltb)
        have HM3 := Lib.hid (HM2.out.then_below hb3)
        clear q hb3 HL2 HK2 HM2
        have HL4 := HL3; have HK4 := HK3; have HM4 := HM3
        clear HL3 HK3 HM3
        have q := Q3.out _ _ _ HL4.out
        go_wp2_with fail
        refine q.out.mono ?_
        rintro e w5 ⟨rfl, T5, h5, hm5⟩
        have hT5 : ∀ k, k ∈ T5 → w.heap.size ≤ k := fun k hk => by
          rcases hm5.link k hk with h | h
          · have : k = w1.heap.size := by simpa using h
            omega
          · have := HM4.out.size; omega
        have HK5 := Lib.hid (HK4.out.mv hm5 (by simp; omega) (by simp; omega))
        have HM5 : Hid (Mv [c, b] [c, b] w w5) := by
          show Mv _ _ _ _
          refine ⟨hm5.os.trans HM4.out.os, hm5.tape.trans HM4.out.tape, hm5.output.trans HM4.out.output, Nat.le_trans HM4.out.size hm5.size, fun k hk hn => (hm5.block k (Nat.lt_of_lt_of_le hk HM4.out.size) (by simp; omega)).trans (HM4.out.block k hk hn), fun k h => .inl h⟩
        have HL5 := Lib.hid h5
        have HT5 := Lib.hid hT5
        have c4 := h5.cell4
        clear q h5 hm5 hT5 HL4 HK4 HM4
        go_wp2
        go_ret2
        exact ⟨_, rfl, ⟨_, _, rfl, HL5.out, HT5.out⟩, HK5.out, HM5.out⟩
    · rw [if_neg h0]
      have hb0 : (r2 != 0) = true := by simpa using h0
      go_enter Tryz.func10, Tryz.ntmps10
      go_wp2_with fail
      refine (QC.out _).mono ?_
      rintro e w1 ⟨rfl, hb1⟩
      have hz1 := hb1.size
      have HL2 := Lib.hid (log_new w1 c nm)
      have HK2 := Lib.hid ((HK.out.below hb1 hlc hlb).alloc (.cells #[.pointer (some ⟨c, 0, none⟩), .string nm, .slice none 0 0, .int .i64 0, .int .i64 0, .bool false] 27))
      have HM2 := Lib.hid (((Mv.refl [c, b] w).then_below hb1).alloc (.cells #[.pointer (some ⟨c, 0, none⟩), .string nm, .slice none 0 0, .int .i64 0, .int .i64 0, .bool false] 27))
      have q := Q1.out _ HK2.out
      clear hb1
      go_wp2_with fail
      refine q.out.mono ?_
      rintro e w3 ⟨rfl, hb3⟩
      have HL3 := Lib.hid (HL2.out.below hb3)
      have HK3 := Lib.hid (HK2.out.below hb3 HK2.out.lt HK2.out.ltb)
      have HM3 := Lib.hid (HM2.out.then_below hb3)
      clear q hb3 HL2 HK2 HM2
      have HL4 := HL3; have HK4 := HK3; have HM4 := HM3
      clear HL3 HK3 HM3
      go_wp2
      go_ret2
      exact ⟨_, rfl, rfl, HK4.out, HM4.out⟩
end Go.Proofs.YtfmbadinfhpihaaGreat
