/-
  ValueEnough: what can be picked for so much can be picked for less; for nothing nothing is picked; more stocks behind change nothing.
  Conditions: stocks in lists that the call reads.
-/
import Derived.Test.YtiekolbkmgdfoaaValueNone
import Derived.Deep.QuietTactic
import Derived.BigQuiet
namespace Go.Proofs.Ytiekolbkmgdfoaa
open Go.RowKit

namespace Vl
theorem stCells_one (l : List St) : ∀ u ∈ stCells l, u.oneCell' = true := by
  intro u hu
  unfold stCells at hu
  obtain ⟨x, _, hx⟩ := List.mem_flatMap.1 hu
  simp only [St.cells, List.mem_cons, List.not_mem_nil, or_false] at hx
  rcases hx with rfl | rfl | rfl | rfl | rfl | rfl | rfl | rfl | rfl <;> rfl
theorem stCells_app (l m : List St) : stCells (l ++ m) = stCells l ++ stCells m := by simp [stCells]
theorem stCells_inv (l : List St) : ∀ (j : Nat) (v : Value), (stCells l)[j]? = some v → ∃ x, l[j / 9]? = some x ∧ x.cells[j % 9]? = some v := by
  induction l with
  | nil => intro j v h; simp [stCells] at h
  | cons y l ih =>
    intro j v h
    have hy : y.cells.length = 9 := rfl
    have e : stCells (y :: l) = y.cells ++ stCells l := rfl
    rw [e] at h
    rcases Nat.lt_or_ge j 9 with hj | hj
    · rw [List.getElem?_append_left (by omega)] at h
      exact ⟨y, by rw [show j / 9 = 0 from by omega]; rfl, by rw [show j % 9 = j from by omega]; exact h⟩
    · rw [List.getElem?_append_right (by omega), hy] at h
      obtain ⟨x, h1, h2⟩ := ih (j - 9) v h
      refine ⟨x, ?_, ?_⟩
      · rw [show j / 9 = (j - 9) / 9 + 1 from by omega]; simpa using h1
      · rw [show j % 9 = (j - 9) % 9 from by omega]; exact h2
end Vl
/-- Stocks in a list, cell by cell. -/
theorem StsAt.reads {w : World} {B : Nat} {A : Option Addr} {l : List Vl.St} (h : StsAt w B A l) : Reads w B 9 A l.length (Vl.stCells l) := by
  refine ⟨Vl.stCells_len l, fun hn => ?_⟩
  obtain ⟨ad, e, hb, hc⟩ := h hn
  refine ⟨ad, e, hb, fun j v hv => ?_⟩
  obtain ⟨x, h1, h2⟩ := Vl.stCells_inv l j v hv
  have h3 := hc _ x h1 _ v h2
  rw [add_of_add, show j / 9 * 9 + j % 9 = j from by omega] at h3
  exact h3
theorem plCells_at (l : List (ByteArray × Int)) : ∀ (k : Nat) (x : ByteArray × Int), l[k]? = some x → (Vl.plCells l)[k * 2]? = some (.string x.1) ∧ (Vl.plCells l)[k * 2 + 1]? = some (.int .i64 x.2) := by
  induction l with
  | nil => intro k x hk; simp at hk
  | cons y l ih =>
    intro k x hk
    have e : Vl.plCells (y :: l) = .string y.1 :: .int .i64 y.2 :: Vl.plCells l := rfl
    rw [e]
    cases k with
    | zero =>
      obtain rfl : y = x := by simpa using hk
      exact ⟨rfl, rfl⟩
    | succ k =>
      have := ih k x (by simpa using hk)
      rw [show (k + 1) * 2 = k * 2 + 2 from by omega]
      simpa using this
/-- One pledge of a list in memory. -/
theorem pl_at {w : World} {B n : Nat} {A : Option Addr} {l : List (ByteArray × Int)} (h : Reads w B 2 A n (Vl.plCells l)) {k : Nat} (hk : k < l.length) :
    ∃ (ad : Addr) (s : ByteArray) (q : Int), A = some ad ∧ ad.block < B ∧ l[k]? = some (s, q) ∧ ∀ j v, [Value.string s, .int .i64 q][j]? = some v → w.cell? ((ad.add (k * 2)).add j) = some v := by
  have h1 := h.1
  rw [Vl.plCells_len] at h1
  obtain ⟨ad, e, hb, hc⟩ := h.2 (by omega)
  have hx : l[k]? = some (l[k].1, l[k].2) := List.getElem?_eq_getElem hk
  obtain ⟨c0, c1⟩ := plCells_at l k _ hx
  refine ⟨ad, _, _, e, hb, hx, fun j v hv => ?_⟩
  rw [add_of_add]
  match j, hv with
  | 0, hv => obtain rfl : Value.string l[k].1 = v := by simpa using hv
             exact hc _ _ c0
  | 1, hv => obtain rfl : Value.int .i64 l[k].2 = v := by simpa using hv
             exact hc _ _ c1
  | j + 2, hv => simp at hv

/-- What Pick tells, in two ways. -/
theorem pick_two {want : Int} (hw : 0 ≤ want) {l : List Vl.St} {o : List (ByteArray × Int)} {x : Int}
    (h : (want < 0 ∧ o = [] ∧ x = 1) ∨ (0 ≤ want ∧ 0 < (Vl.pk want l).2 ∧ o = [] ∧ x = 32) ∨ (0 ≤ want ∧ (Vl.pk want l).2 ≤ 0 ∧ o = (Vl.pk want l).1 ∧ x = 0)) :
    (0 < (Vl.pk want l).2 ∧ o = [] ∧ x = 32) ∨ ((Vl.pk want l).2 ≤ 0 ∧ o = (Vl.pk want l).1 ∧ x = 0) := by
  rcases h with h | h | h
  · omega
  · exact .inl h.2
  · exact .inr h.2

theorem enough_early (a b : Int) (l m : List Vl.St) (A B : Option Addr) (cp cq : Nat) (w : World) (ha1 : -9223372036854775808 ≤ a) (ha2 : a ≤ 9223372036854775807) (hb1 : -9223372036854775808 ≤ b) (hb2 : b ≤ 9223372036854775807)
    (hl : l.length ≤ 9223372036854775807) (hm : m.length ≤ 9223372036854775807) (h : 40 < l.length ∨ 40 < m.length ∨ a < 0 ∨ b < 0 ∨ a < b) :
    Calls Try.prog 4 #[.int .i64 a, .int .i64 b, .slice A l.length cp, .slice B m.length cq] w fun e w' => e = .returned (.bool true) ∧ Below w.heap.size w w' := by
  generalize l.length = n at *
  generalize m.length = k at *
  rcases (show 40 < n ∨ (n ≤ 40 ∧ 40 < k) ∨ (n ≤ 40 ∧ k ≤ 40 ∧ a < 0) ∨ (n ≤ 40 ∧ k ≤ 40 ∧ 0 ≤ a ∧ b < 0) ∨ (n ≤ 40 ∧ k ≤ 40 ∧ 0 ≤ a ∧ 0 ≤ b ∧ a < b) by omega) with h1 | ⟨h1, h2⟩ | ⟨h1, h2, h3⟩ | ⟨h1, h2, h3, h4⟩ | ⟨h1, h2, h3, h4, h5⟩
  all_goals
    clear h
    go_enter Try.func4, Try.ntmps4
    go_wp2_with fail
    refine (alive20_any _).mono ?_
    rintro e w1 ⟨rfl, hb⟩
    go_wp2
    go_ret
    exact ⟨rfl, hb⟩

set_option maxHeartbeats 4000000 in
set_option maxRecDepth 100000 in
theorem enough_walk (want less : Int) (l m : List Vl.St) (A B : Option Addr) (cp cq : Nat) (w : World) (hw1 : -9223372036854775808 ≤ want) (hw2 : want ≤ 9223372036854775807) (hv1 : -9223372036854775808 ≤ less) (hv2 : less ≤ 9223372036854775807)
    (hrl : StsAt w w.heap.size A l) (hrm : StsAt w w.heap.size B m) (hl : l.length ≤ 9223372036854775807) (hm : m.length ≤ 9223372036854775807) (hfl : ∀ x ∈ l, x.fits) (hfm : ∀ x ∈ m, x.fits) :
    Calls Try.prog 4 #[.int .i64 want, .int .i64 less, .slice A l.length cp, .slice B m.length cq] w fun e w' => e = .returned (.bool true) ∧ Below w.heap.size w w' := by
  by_cases hearly : 40 < l.length ∨ 40 < m.length ∨ want < 0 ∨ less < 0 ∨ want < less
  · exact enough_early want less l m A B cp cq w hw1 hw2 hv1 hv2 hl hm hearly
  obtain ⟨i0, hi, hz0, hz1, hz2⟩ := info_parts info_stock
  obtain ⟨n, hn⟩ : ∃ n, l.length = n := ⟨_, rfl⟩
  obtain ⟨k, hk⟩ : ∃ k, m.length = k := ⟨_, rfl⟩
  rw [hn, hk] at hearly
  have h1 : n ≤ 40 := by omega
  have h2 : k ≤ 40 := by omega
  have h3 : 0 ≤ want := by omega
  have h4 : 0 ≤ less := by omega
  have h5 : less ≤ want := by omega
  have HP := fun (x : Int) (h1 : -9223372036854775808 ≤ x) (h2 : x ≤ 9223372036854775807) (w1 : World) (hb : Below w.heap.size w w1) => Lib.hid (pick_any x l A cp w1 h1 h2 ((hrl.below hb).more hb.size) (by omega) hfl)
  have HL := Lib.hid hrl; have HM := Lib.hid hrm
  have HFA : Hid (∀ x ∈ l ++ m, x.fits) := fun x hx => (List.mem_append.1 hx).elim (hfl x) (hfm x)
  have Hn := Lib.hid hn; have Hk := Lib.hid hk
  rw [hn] at HP
  rw [hn] at hl
  rw [hk] at hm
  rw [hn, hk]
  clear hearly hrl hrm hfl hfm hn hk
  go_enter Try.func4, Try.ntmps4
  go_wp2_with fail
  refine (HP want hw1 hw2 _ (Below.refl _ _)).out.mono ?_
  rintro e w1 ⟨A1, n1, c1, o1, x1, rfl, hn1, hr1, hb1, ho1⟩
  have HO1 := Lib.hid (pick_two h3 ho1)
  have HR1 := Lib.hid hr1; have HB1 := Lib.hid hb1; have HN1 := Lib.hid hn1
  clear ho1 hr1 hb1 hn1
  go_wp2_with fail
  refine (HP less hv1 hv2 _ HB1.out).out.mono ?_
  rintro e w2 ⟨A2, n2, c2, o2, x2, rfl, hn2, hr2, hb2, ho2⟩
  have HO2 := Lib.hid (pick_two h4 ho2)
  have hsz1 := HB1.out.size
  have HB2 := Lib.hid (HB1.out.trans (hb2.mono hsz1))
  have HB12 := Lib.hid hb2
  clear ho2 hr2 hb2 hn2
  have hsz2 := HB2.out.size
  go_wp2_with (first
    | (at_builtin; refine wpList_append_any _ rfl _ _ 22 rfl w2.heap.size 27 i0 (.agg #[.string ⟨#[]⟩, .bool false, .bool false, .int .i64 0, .int .i64 0, .int .i64 0, .int .i64 0, .int .i64 0, .int .i64 0]) 9 72 Try.underlying22 hi hz0 hz1 hz2 rfl (by decide) (.slice none 0 0) 0 [] rfl (World.ownsRow_nil w2 _ _ _) w.heap.size A n cp (Vl.stCells l) rfl ?c1 ?c2 ?c3 ?c4 ?c5 ?_))
  case c1 => rw [← Hn.out]; exact (HL.out.below HB2.out).reads
  case c2 => exact Vl.stCells_one l
  case c3 => unfold maxLen; omega
  case c4 => omega
  case c5 => omega
  intro v3 w3 hown3 hgrow3 _
  have hb3 : Below w2.heap.size w2 w3 := (Below.refl _ _).grown hgrow3 (Nat.le_refl _) (fun j hj => by cases hj)
  have HB3 := Lib.hid hb3
  have HO3 : Hid (w3.ownsRow w2.heap.size 27 9 v3 n (Vl.stCells l)) := hown3
  clear hb3 hown3 hgrow3
  have hsz3 := HB3.out.size
  go_wp2_with (first
    | (at_builtin; refine wpList_append_any _ rfl _ _ 22 rfl w2.heap.size 27 i0 (.agg #[.string ⟨#[]⟩, .bool false, .bool false, .int .i64 0, .int .i64 0, .int .i64 0, .int .i64 0, .int .i64 0, .int .i64 0]) 9 72 Try.underlying22 hi hz0 hz1 hz2 rfl (by decide) _ _ _ rfl HO3.out w.heap.size B k cq (Vl.stCells m) rfl ?d1 ?d2 ?d3 ?d4 ?d5 ?_))
  case d1 => rw [← Hk.out]; exact ((HM.out.below HB2.out).below (HB3.out.mono (by omega))).reads
  case d2 => exact Vl.stCells_one m
  case d3 => unfold maxLen; omega
  case d4 => omega
  case d5 => omega
  intro v4 w4 hown4 hgrow4 _
  have hb4 : Below w2.heap.size w2 w4 := HB3.out.grown hgrow4 hsz3 (fun j hj => (HO3.out.lt j hj).1)
  have hown4' : w4.ownsRow w2.heap.size 27 9 v4 (l ++ m).length (Vl.stCells (l ++ m)) := by
    rw [Vl.stCells_app, List.length_append, Hn.out, Hk.out]
    exact hown4
  obtain ⟨A4, c4, hv4, hst4⟩ := sts_own hown4'
  subst hv4
  have hlm : (l ++ m).length = n + k := by rw [List.length_append, Hn.out, Hk.out]
  have hp4 := pick_any want (l ++ m) A4 c4 w4 hw1 hw2 hst4 (by omega) HFA.out
  rw [hlm] at hp4 ⊢
  have HP4 := Lib.hid hp4
  have HB4 := Lib.hid (HB2.out.trans (hb4.mono hsz2))
  have HB24 := Lib.hid hb4
  have hsz4 := hb4.size
  clear hb4 hown4 hown4' hgrow4 hst4 hlm hp4 HFA HO3
  go_wp2_with fail
  refine HP4.out.mono ?_
  rintro e w5 ⟨A5, n5, c5, o5, x5, rfl, hn5, hr5, hb5, ho5⟩
  have HO5 := Lib.hid (pick_two h3 ho5)
  have HN5 := Lib.hid hn5; have HR5 := Lib.hid hr5
  have HB5 := Lib.hid (HB4.out.trans (hb5.mono HB4.out.size))
  have HB45 := Lib.hid hb5
  have hsz5 := hb5.size
  clear ho5 hn5 hr5 hb5 HP4
  go_wp2_with fail
  refine (HP 0 (by omega) (by omega) _ HB5.out).out.mono ?_
  rintro e w6 ⟨A6, n6, c6, o6, x6, rfl, rfl, hr6, hb6, ho6⟩
  obtain ⟨rfl, rfl⟩ : o6 = [] ∧ x6 = 0 := by
    rcases pick_two (Int.le_refl 0) ho6 with h | h
    · rw [Vl.pk_done (Int.le_refl 0)] at h
      exact absurd h.1 (by decide)
    · rw [Vl.pk_done (Int.le_refl 0)] at h
      exact ⟨h.2.1, h.2.2⟩
  have HB6 := Lib.hid (HB5.out.trans (hb6.mono HB5.out.size))
  have HR15 : Hid (Reads w6 w1.heap.size 2 A1 n1 (Vl.plCells o1)) := by
    show Reads _ _ _ _ _ _
    exact (((HR1.out.below HB12.out).below (HB24.out.mono HB12.out.size)).below (HB45.out.mono (by have := HB12.out.size; omega))).below (hb6.mono (by have := HB12.out.size; omega))
  have HR56 : Hid (Reads w6 w5.heap.size 2 A5 n5 (Vl.plCells o5)) := by
    show Reads _ _ _ _ _ _
    exact HR5.out.below hb6
  clear ho6 hr6 hb6 HP
  rcases HO1.out with ⟨q1, q2, q3⟩ | ⟨q1, q2, q3⟩
  · subst q2 q3
    obtain rfl : n1 = 0 := HN1.out
    clear q1
    have HBx := Lib.hid HB6.out
    go_wp2
    go_loopw [17] (fun i wr => i = .int .i64 0 ∧ Hid (Below w.heap.size w wr)) (fun _ _ => 0)
    case atStart => exact ⟨rfl, HBx.out⟩
    case round =>
      obtain ⟨rfl, HB⟩ := hrel
      go_wp2_with fail
      refine (alive20_any _).mono ?_
      rintro e w7 ⟨rfl, hb7⟩
      have HB7 := Lib.hid (HB.out.trans (hb7.mono HB.out.size))
      clear hb7
      go_wp2
      go_ret
      exact ⟨rfl, HB7.out⟩
  · have g2 : x2 = 0 := by
      have h := Vl.enough l less want h5 q1
      rcases HO2.out with ⟨r1, _⟩ | ⟨_, _, r3⟩
      · omega
      · exact r3
    have g5 : o5 = o1 ∧ x5 = 0 := by
      have h := Vl.pk_more l m want q1
      rcases HO5.out with ⟨r1, _⟩ | ⟨_, r2, r3⟩
      · rw [h] at r1; omega
      · rw [h] at r2; exact ⟨by rw [r2, q2], r3⟩
    obtain ⟨rfl, rfl⟩ := g5
    subst g2 q3
    have hn5 : n5 = o5.length := HN5.out
    have hn1 : n1 = o5.length := HN1.out
    obtain rfl : n1 = n5 := by omega
    have HON := Lib.hid hn1
    have h40 : n1 ≤ 40 := by
      have h := Vl.pk_len l want
      rw [← q2, ← hn1, Hn.out] at h
      omega
    clear hn1 hn5 q1 q2
    go_wp2
    go_loopw [17] (fun i wr => ∃ j : Nat, j ≤ n1 ∧ i = .int .i64 j ∧ Hid (Reads wr w1.heap.size 2 A1 n1 (Vl.plCells o5)) ∧ Hid (Reads wr w5.heap.size 2 A5 n1 (Vl.plCells o5)) ∧ Hid (Below w.heap.size w wr)) (fun i _ => n1 - (intOf i).toNat)
    case atStart => exact ⟨0, Nat.zero_le _, rfl, HR15.out, HR56.out, HB6.out⟩
    case round =>
      obtain ⟨j, hj, rfl, HRA, HRB, HB⟩ := hrel
      by_cases hlt : j < n1
      · obtain ⟨ad, s, q, rfl, hab, hk1, hc1⟩ := pl_at HRA.out (show j < o5.length by rw [← HON.out]; exact hlt)
        obtain ⟨ae, s', q', rfl, hae, hk2, hc2⟩ := pl_at HRB.out (show j < o5.length by rw [← HON.out]; exact hlt)
        rw [hk1] at hk2
        simp only [Option.some.injEq, Prod.mk.injEq] at hk2
        obtain ⟨rfl, rfl⟩ := hk2
        have HC1 := Lib.hid hc1; have HC2 := Lib.hid hc2
        clear hc1 hc2 hk1
        go_wp2
        refine wp_region_quiet_lit (by kernel_rfl) (by kernel_rfl) ?_
        repeat (first
          | (refine wpQuiet_load_cells rfl 36 _ rfl (ad.add (j * 2)) rfl [.string s, .int .i64 q] _ ?cc Try.underlying36 rfl size_pledge ?_; (case cc => rintro _ ⟨nq, rfl⟩; exact HC1.out); simp only [Act.put, List.setIfInBounds_toArray, List.set_cons_succ, List.set_cons_zero])
          | (refine wpQuiet_load_cells rfl 36 _ rfl (ae.add (j * 2)) rfl [.string s, .int .i64 q] _ ?cc Try.underlying36 rfl size_pledge ?_; (case cc => rintro _ ⟨nq, rfl⟩; exact HC2.out); simp only [Act.put, List.setIfInBounds_toArray, List.set_cons_succ, List.set_cons_zero])
          | (refine wpQuiet_ne_pledge rfl _ _ _ rfl s s q q rfl rfl ?_; simp only [Act.put, List.setIfInBounds_toArray, List.set_cons_succ, List.set_cons_zero])
          | go_big_quiet_step (fail))
        refine wpQuiet_nil ?_
        rintro _ ⟨nq, rfl⟩
        have hself : (!(s.toList == s.toList && q == q)) = false := by simp
        rw [hself]
        go_wp2
        go_round
        case rel => exact ⟨j + 1, by omega, by go_num, HRA.out, HRB.out, drewN_below HB.out nq⟩
        case measure => simp [intOf]; omega
      · obtain rfl : j = n1 := by omega
        go_wp2_with fail
        refine (alive20_any _).mono ?_
        rintro e w7 ⟨rfl, hb7⟩
        have HB7 := Lib.hid (HB.out.trans (hb7.mono HB.out.size))
        clear hb7
        go_wp2
        go_ret
        exact ⟨rfl, HB7.out⟩
end Go.Proofs.Ytiekolbkmgdfoaa
