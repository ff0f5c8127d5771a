/-
  ValueMerges: pledges merged in pieces are pledges merged at once; two lists' worth is their sum, or an error.
  Conditions: two lists of pledges, two of stocks.
-/
import Derived.Test.YtiekolbkmgdfoaaMg2
import Derived.Test.YtiekolbkmgdfoaaVWorthE
import Derived.Test.YtiekolbkmgdfoaaOpenPls
import Derived.Test.YtiekolbkmgdfoaaValueEnough
namespace Go.Proofs.Ytiekolbkmgdfoaa
open Go.RowKit Go.Maps
set_option maxRecDepth 100000

/-- Quantities as the law takes them. -/
def Small (l : List (ByteArray × Int)) : Prop := ∀ x ∈ l, 0 ≤ x.2 ∧ x.2 ≤ 1125899906842624
namespace Mg
theorem sum_small {l : List (ByteArray × Int)} (h : Small l) (s : ByteArray) : 0 ≤ sumAt l s ∧ sumAt l s ≤ l.length * 1125899906842624 := by
  induction l with
  | nil => exact ⟨Int.le_refl _, Int.le_refl _⟩
  | cons x l ih =>
    have h1 := ih (fun y hy => h y (by simp [hy]))
    have h2 := h x (by simp)
    have h3 : 0 ≤ amt s x ∧ amt s x ≤ 1125899906842624 := by
      unfold amt
      split <;> omega
    show 0 ≤ amt s x + sumAt l s ∧ amt s x + sumAt l s ≤ _
    rw [List.length_cons]
    omega
theorem fine_small {l : List (ByteArray × Int)} (h : Small l) (hl : l.length ≤ 1000) : Fine l := ⟨fun x hx => (h x hx).1, fun s => by have := (sum_small h s).2; omega⟩
theorem mem_merge {l : List (ByteArray × Int)} {x : ByteArray × Int} (h : x ∈ merge l) : x.1 ∈ l.map (·.1) ∧ x.2 = sumAt l x.1 := by
  unfold merge at h
  obtain ⟨s, hs, rfl⟩ := List.mem_map.1 h
  exact ⟨mem_nms.1 (List.mem_filter.1 hs).1, rfl⟩
theorem merge_len (l : List (ByteArray × Int)) : (merge l).length ≤ l.length := by
  have h1 := told_len l (nms l)
  rw [told_all] at h1
  exact Nat.le_trans h1 (nms_len l)
theorem fine_two {a b : List (ByteArray × Int)} (ha : Small a) (hb : Small b) (hl : a.length + b.length ≤ 1000) : Fine (merge a ++ merge b) := by
  refine ⟨fun x hx => ?_, fun s => ?_⟩
  · rcases List.mem_append.1 hx with h | h
    · rw [(mem_merge h).2]; exact (sum_small ha _).1
    · rw [(mem_merge h).2]; exact (sum_small hb _).1
  · rw [sumAt_app, sumAt_merge, sumAt_merge]
    have h1 := (sum_small ha s).2
    have h2 := (sum_small hb s).2
    omega
theorem small_app {a b : List (ByteArray × Int)} (ha : Small a) (hb : Small b) : Small (a ++ b) := fun x hx => (List.mem_append.1 hx).elim (ha x) (hb x)
end Mg
/-- Names as the model can hold them. -/
def Nms (l : List (ByteArray × Int)) : Prop := ∀ x ∈ l, x.1.size ≤ 9223372036854775807
theorem names_merge {l : List (ByteArray × Int)} (h : Nms l) : Nms (Mg.merge l) := fun x hx => by
  obtain ⟨y, hy, e⟩ := List.mem_map.1 (Mg.mem_merge hx).1
  rw [← e]
  exact h y hy
theorem Reads.next {w w' : World} {B sz n : Nat} {A : Option Addr} {xs : List Value} (h : Reads w B sz A n xs) (hb : Below w.heap.size w w') (hB : B ≤ w.heap.size) : Reads w' B sz A n xs := h.below (hb.mono hB)
theorem merges_early (a b : List (ByteArray × Int)) (l m : List Vl.St) (A B C D : Option Addr) (c1 c2 c3 c4 : Nat) (w : World) (ha : a.length ≤ 9223372036854775807) (hb : b.length ≤ 9223372036854775807) (hl : l.length ≤ 9223372036854775807) (hm : m.length ≤ 9223372036854775807) (h : 60 < a.length ∨ 60 < b.length ∨ 60 < l.length ∨ 60 < m.length) :
    Calls Try.prog 6 #[.slice A a.length c1, .slice B b.length c2, .slice C l.length c3, .slice D m.length c4] w fun e w' => e = .returned (.bool true) ∧ Below w.heap.size w w' := by
  generalize a.length = n1 at *
  generalize b.length = n2 at *
  generalize l.length = n3 at *
  generalize m.length = n4 at *
  rcases (show 60 < n1 ∨ (n1 ≤ 60 ∧ 60 < n2) ∨ (n1 ≤ 60 ∧ n2 ≤ 60 ∧ 60 < n3) ∨ (n1 ≤ 60 ∧ n2 ≤ 60 ∧ n3 ≤ 60 ∧ 60 < n4) by omega) with h1 | ⟨h1, h2⟩ | ⟨h1, h2, h3⟩ | ⟨h1, h2, h3, h4⟩
  all_goals
    clear h
    go_enter Try.func6, Try.ntmps6
    go_wp2_with fail
    refine (alive20_any _).mono ?_
    rintro e w1 ⟨rfl, hb⟩
    go_wp2
    go_ret
    exact ⟨rfl, hb⟩
set_option maxHeartbeats 40000000 in
theorem merges_walk (a b : List (ByteArray × Int)) (l m : List Vl.St) (A B C D : Option Addr) (c1 c2 c3 c4 : Nat) (w : World) (hra : Reads w w.heap.size 2 A a.length (Vl.plCells a)) (hrb : Reads w w.heap.size 2 B b.length (Vl.plCells b)) (hrl : StsAt w w.heap.size C l) (hrm : StsAt w w.heap.size D m)
    (hla : a.length ≤ 9223372036854775807) (hlb : b.length ≤ 9223372036854775807) (hll : l.length ≤ 9223372036854775807) (hlm : m.length ≤ 9223372036854775807)
    (hfa : ∀ x ∈ a, x.1.size ≤ 9223372036854775807 ∧ -9223372036854775808 ≤ x.2 ∧ x.2 ≤ 9223372036854775807) (hfb : ∀ x ∈ b, x.1.size ≤ 9223372036854775807 ∧ -9223372036854775808 ≤ x.2 ∧ x.2 ≤ 9223372036854775807) (hfl : ∀ x ∈ l, x.fits) (hfm : ∀ x ∈ m, x.fits) :
    Calls Try.prog 6 #[.slice A a.length c1, .slice B b.length c2, .slice C l.length c3, .slice D m.length c4] w fun e w' => e = .returned (.bool true) ∧ Below w.heap.size w w' := by
  by_cases hearly : 60 < a.length ∨ 60 < b.length ∨ 60 < l.length ∨ 60 < m.length
  · exact merges_early a b l m A B C D c1 c2 c3 c4 w hla hlb hll hlm hearly
  obtain ⟨i0, hi, hz0, hz1, hz2⟩ := info_parts info_stock
  obtain ⟨j0, hi', hz0', hz1', hz2'⟩ := info_parts info_pledge
  obtain ⟨n1, hn1⟩ : ∃ n, a.length = n := ⟨_, rfl⟩
  obtain ⟨n2, hn2⟩ : ∃ n, b.length = n := ⟨_, rfl⟩
  obtain ⟨n3, hn3⟩ : ∃ n, l.length = n := ⟨_, rfl⟩
  obtain ⟨n4, hn4⟩ : ∃ n, m.length = n := ⟨_, rfl⟩
  rw [hn1] at hra; rw [hn2] at hrb
  rw [hn1, hn2, hn3, hn4] at hearly
  rw [hn1, hn2, hn3, hn4]
  have h1 : n1 ≤ 60 := by omega
  have h2 : n2 ≤ 60 := by omega
  have h3 : n3 ≤ 60 := by omega
  have h4 : n4 ≤ 60 := by omega
  have N1 := Lib.hid hn1; have N2 := Lib.hid hn2; have N3 := Lib.hid hn3; have N4 := Lib.hid hn4
  have RA := Lib.hid hra; have RB := Lib.hid hrb; have RL := Lib.hid hrl; have RM := Lib.hid hrm
  have FA := Lib.hid hfa; have FB := Lib.hid hfb; have FL := Lib.hid hfl; have FM := Lib.hid hfm
  clear hearly hn1 hn2 hn3 hn4 hra hrb hrl hrm hfa hfb hfl hfm hla hlb hll hlm
  go_enter Try.func6, Try.ntmps6
  go_wp2
  go_loop [9] (fun i => ∃ k : Nat, k ≤ n1 ∧ i = .int .i64 k ∧ Hid (Small (a.take k))) (fun i => n1 - (intOf i).toNat)
  case atStart => exact ⟨0, Nat.zero_le _, rfl, by show Small _; intro x hx; simp at hx⟩
  case round =>
    obtain ⟨k, hk, rfl, HQ⟩ := hrel
    by_cases hlt : k < n1
    · obtain ⟨ad, s, q, rfl, hab, hxk, hc0⟩ := pl_at RA.out (show k < a.length by rw [N1.out]; exact hlt)
      have hfx := FA.out _ (List.mem_of_getElem? hxk)
      simp only at hfx
      have x1 : w.cell? ⟨(ad.add (k * 2)).block, (ad.add (k * 2)).off + 1, none⟩ = some (.int .i64 q) := hc0 1 _ rfl
      have HXK := Lib.hid hxk
      clear hc0 hxk
      by_cases g1 : q < 0
      · go_wp2_with fail
        refine (alive20_any _).mono ?_
        rintro e w1 ⟨rfl, hb⟩
        go_wp2
        go_ret
        exact ⟨rfl, hb⟩
      by_cases g2 : 1125899906842624 < q
      · go_wp2_with fail
        refine (alive20_any _).mono ?_
        rintro e w1 ⟨rfl, hb⟩
        go_wp2
        go_ret
        exact ⟨rfl, hb⟩
      have hq2 : Small (a.take (k + 1)) := by
        rw [take_snoc HXK.out]
        intro x hx
        rcases List.mem_append.1 hx with h | h
        · exact HQ.out x h
        · obtain rfl : x = (s, q) := by simpa using h
          exact ⟨by simp only; omega, by simp only; omega⟩
      have HQ2 := Lib.hid hq2
      clear hq2
      go_wp2
      go_round
      case rel => exact ⟨k + 1, hlt, by go_num, HQ2⟩
      case measure => simp [intOf]; omega
    · obtain rfl : k = n1 := by omega
      have SA : Hid (Small a) := by
        have h := HQ.out
        rw [List.take_of_length_le (by rw [N1.out]; omega)] at h
        exact h
      clear HQ
      go_wp2
      go_loop [10] (fun i => ∃ j : Nat, j ≤ n2 ∧ i = .int .i64 j ∧ Hid (Small (b.take j))) (fun i => n2 - (intOf i).toNat)
      case atStart => exact ⟨0, Nat.zero_le _, rfl, by show Small _; intro x hx; simp at hx⟩
      case round =>
        obtain ⟨j, hj, rfl, HQ⟩ := hrel
        by_cases hlt2 : j < n2
        · obtain ⟨ad, s, q, rfl, hab, hxk, hc0⟩ := pl_at RB.out (show j < b.length by rw [N2.out]; exact hlt2)
          have hfx := FB.out _ (List.mem_of_getElem? hxk)
          simp only at hfx
          have x1 : w.cell? ⟨(ad.add (j * 2)).block, (ad.add (j * 2)).off + 1, none⟩ = some (.int .i64 q) := hc0 1 _ rfl
          have HXK := Lib.hid hxk
          clear hc0 hxk
          by_cases g1 : q < 0
          · go_wp2_with fail
            refine (alive20_any _).mono ?_
            rintro e w1 ⟨rfl, hb⟩
            go_wp2
            go_ret
            exact ⟨rfl, hb⟩
          by_cases g2 : 1125899906842624 < q
          · go_wp2_with fail
            refine (alive20_any _).mono ?_
            rintro e w1 ⟨rfl, hb⟩
            go_wp2
            go_ret
            exact ⟨rfl, hb⟩
          have hq2 : Small (b.take (j + 1)) := by
            rw [take_snoc HXK.out]
            intro x hx
            rcases List.mem_append.1 hx with h | h
            · exact HQ.out x h
            · obtain rfl : x = (s, q) := by simpa using h
              exact ⟨by simp only; omega, by simp only; omega⟩
          have HQ2 := Lib.hid hq2
          clear hq2
          go_wp2
          go_round
          case rel => exact ⟨j + 1, hlt2, by go_num, HQ2⟩
          case measure => simp [intOf]; omega
        · obtain rfl : j = n2 := by omega
          have SB : Hid (Small b) := by
            have h := HQ.out
            rw [List.take_of_length_le (by rw [N2.out]; omega)] at h
            exact h
          clear HQ
          have NA : Hid (Nms a) := fun x hx => (FA.out x hx).1
          have NB : Hid (Nms b) := fun x hx => (FB.out x hx).1
          -- x: both at once
          go_wp2_with (at_builtin; refine wpList_append_any _ rfl _ _ 28 rfl w.heap.size 36 j0 (.agg #[.string ⟨#[]⟩, .int .i64 0]) 2 24 Try.underlying28 hi' hz0' hz1' hz2' rfl (by decide) (.slice none 0 0) 0 [] rfl (World.ownsRow_nil w _ _ _) w.heap.size A k c1 (Vl.plCells a) rfl ?c1 ?c2 (by unfold maxLen; omega) (by omega) (by omega) ?_)
          case c1 => exact RA.out
          case c2 => exact plCells_one a
          intro v1 w1 hown1 hgrow1 _
          have hb1 : Below w.heap.size w w1 := (Below.refl _ _).grown hgrow1 (Nat.le_refl _) (fun q hq => by cases hq)
          have HB1 := Lib.hid hb1
          have HO1 : Hid (w1.ownsRow w.heap.size 36 2 v1 k (Vl.plCells a)) := by
            show World.ownsRow _ _ _ _ _ _ _
            simpa using hown1
          have hz1w := hb1.size
          clear hown1 hgrow1 hb1
          go_wp2_with (at_builtin; refine wpList_append_any _ rfl _ _ 28 rfl w.heap.size 36 j0 (.agg #[.string ⟨#[]⟩, .int .i64 0]) 2 24 Try.underlying28 hi' hz0' hz1' hz2' rfl (by decide) _ _ _ rfl HO1.out w.heap.size B j c2 (Vl.plCells b) rfl ?c1 ?c2 (by unfold maxLen; omega) (by omega) (by omega) ?_)
          case c1 => exact RB.out.below HB1.out
          case c2 => exact plCells_one b
          intro v2 w2 hown2 hgrow2 _
          have hb2 : Below w.heap.size w w2 := HB1.out.grown hgrow2 hz1w (fun q hq => (HO1.out.lt q hq).1)
          have hlab : (a ++ b).length = k + j := by rw [List.length_append, N1.out, N2.out]
          have hown2' : w2.ownsRow w.heap.size 36 2 v2 (k + j) (Vl.plCells (a ++ b)) := by
            rw [show Vl.plCells (a ++ b) = Vl.plCells a ++ Vl.plCells b by simp [Vl.plCells]]
            exact hown2
          obtain ⟨Z2, d2, rfl, _⟩ := own_form hown2'
          have q2 := merge_any (a ++ b) Z2 d2 (k + j) hlab w2 (Reads.of_own hown2') (by omega) (Mg.fine_small (Mg.small_app SA.out SB.out) (by omega)) (fun x hx => by
            rcases List.mem_append.1 hx with h | h
            · exact ⟨(FA.out x h).1, (FA.out x h).2.2⟩
            · exact ⟨(FB.out x h).1, (FB.out x h).2.2⟩)
          have Q2 := Lib.hid q2; have HB2 := Lib.hid hb2
          have hz2w := hb2.size
          clear hown2 hgrow2 hb2 hown2' q2 HO1 HB1 hlab
          go_wp2_with fail
          refine Q2.out.mono ?_
          rintro e w3 ⟨v3, rfl, hown3, hb3⟩
          have hz3w := hb3.size
          obtain ⟨n3x, hnx⟩ : ∃ n, (Mg.merge (a ++ b)).length = n := ⟨_, rfl⟩
          have hx60 : n3x ≤ 1000 := by
            have h := Mg.merge_len (a ++ b)
            rw [List.length_append, N1.out, N2.out, hnx] at h
            omega
          rw [hnx] at hown3
          obtain ⟨ZX, dX, rfl, _⟩ := own_form hown3
          have HX3 := Lib.hid (Reads.of_own hown3)
          have HNX := Lib.hid hnx
          have HB3 := Lib.hid (HB2.out.trans (hb3.mono hz2w))
          clear hown3 hb3 hnx Q2 HB2
          -- y: in pieces
          have q3 := merge_any a A c1 k N1.out w3 ((RA.out.below HB3.out).more HB3.out.size) (by omega) (Mg.fine_small SA.out (by rw [N1.out]; omega)) (fun x hx => ⟨(FA.out x hx).1, (FA.out x hx).2.2⟩)
          have Q3 := Lib.hid q3
          clear q3
          go_wp2_with fail
          refine Q3.out.mono ?_
          rintro e w4 ⟨v4, rfl, hown4, hb4⟩
          have hz4w := hb4.size
          obtain ⟨na, hna⟩ : ∃ n, (Mg.merge a).length = n := ⟨_, rfl⟩
          have ha60 : na ≤ 60 := by
            have h := Mg.merge_len a
            rw [N1.out, hna] at h
            omega
          rw [hna] at hown4
          have HNA := Lib.hid hna
          have HO4 := Lib.hid hown4
          have HB4 := Lib.hid (HB3.out.trans (hb4.mono HB3.out.size))
          have HX4 := Lib.hid (HX3.out.next hb4 (Nat.le_refl _))
          clear hown4 hb4 hna Q3 HB3 HX3
          have q4 := merge_any b B c2 j N2.out w4 ((RB.out.below HB4.out).more HB4.out.size) (by omega) (Mg.fine_small SB.out (by rw [N2.out]; omega)) (fun x hx => ⟨(FB.out x hx).1, (FB.out x hx).2.2⟩)
          have Q4 := Lib.hid q4
          clear q4
          go_wp2_with fail
          refine Q4.out.mono ?_
          rintro e w5 ⟨v5, rfl, hown5, hb5⟩
          have hz5w := hb5.size
          obtain ⟨nb, hnb⟩ : ∃ n, (Mg.merge b).length = n := ⟨_, rfl⟩
          have hb60 : nb ≤ 60 := by
            have h := Mg.merge_len b
            rw [N2.out, hnb] at h
            omega
          rw [hnb] at hown5
          have HNB := Lib.hid hnb
          obtain ⟨Z5, d5, rfl, _⟩ := own_form hown5
          have HR5 := Lib.hid (Reads.of_own hown5)
          have HO5 := Lib.hid (ownsRow_keep HO4.out (fun q hq => hb5.block q (HO4.out.lt q hq).2))
          have HB5 := Lib.hid (HB4.out.trans (hb5.mono HB4.out.size))
          have HX5 := Lib.hid (HX4.out.next hb5 hz4w)
          clear hown5 hb5 hnb Q4 HB4 HX4 HO4
          have hz35 : w3.heap.size ≤ w5.heap.size := by omega
          go_wp2_with (at_builtin; refine wpList_append_any _ rfl _ _ 28 rfl w3.heap.size 36 j0 (.agg #[.string ⟨#[]⟩, .int .i64 0]) 2 24 Try.underlying28 hi' hz0' hz1' hz2' rfl (by decide) _ _ _ rfl HO5.out w5.heap.size Z5 nb d5 (Vl.plCells (Mg.merge b)) rfl ?c1 ?c2 (by unfold maxLen; omega) (by omega) (by omega) ?_)
          case c1 => exact HR5.out
          case c2 => exact plCells_one _
          intro v6 w6 hown6 hgrow6 _
          have hb6 : Below w3.heap.size w5 w6 := (Below.refl w3.heap.size w5).grown hgrow6 hz35 (fun q hq => (HO5.out.lt q hq).1)
          have hz6w := hb6.size
          have hlmm : (Mg.merge a ++ Mg.merge b).length = na + nb := by rw [List.length_append, HNA.out, HNB.out]
          have hown6' : w6.ownsRow w3.heap.size 36 2 v6 (na + nb) (Vl.plCells (Mg.merge a ++ Mg.merge b)) := by
            rw [show Vl.plCells (Mg.merge a ++ Mg.merge b) = Vl.plCells (Mg.merge a) ++ Vl.plCells (Mg.merge b) by simp [Vl.plCells]]
            exact hown6
          obtain ⟨Z6, d6, rfl, _⟩ := own_form hown6'
          have hz03 : w.heap.size ≤ w3.heap.size := by omega
          have q6 := merge_any (Mg.merge a ++ Mg.merge b) Z6 d6 (na + nb) hlmm w6 (Reads.of_own hown6') (by omega) (Mg.fine_two SA.out SB.out (by rw [N1.out, N2.out]; omega)) (fun x hx => by
            rcases List.mem_append.1 hx with h | h
            · refine ⟨names_merge NA.out x h, ?_⟩
              rw [(Mg.mem_merge h).2]
              have h7 := (Mg.sum_small SA.out x.1).2
              rw [N1.out] at h7
              omega
            · refine ⟨names_merge NB.out x h, ?_⟩
              rw [(Mg.mem_merge h).2]
              have h7 := (Mg.sum_small SB.out x.1).2
              rw [N2.out] at h7
              omega)
          unfold MergeOut at q6
          rw [← Mg.merge_pieces] at q6
          have Q6 := Lib.hid q6
          have HB6 := Lib.hid (HB5.out.trans (hb6.mono hz03))
          have HX6 : Hid (Reads w6 w3.heap.size 2 ZX n3x (Vl.plCells (Mg.merge (a ++ b)))) := HX5.out.below hb6
          clear hown6 hgrow6 hb6 hown6' q6 HO5 HR5 HB5 HX5 hlmm HNA HNB
          go_wp2_with fail
          refine Q6.out.mono ?_
          rintro e w7 ⟨v7, rfl, hown7, hb7⟩
          have hz7w := hb7.size
          rw [HNX.out] at hown7
          obtain ⟨ZY, dY, rfl, _⟩ := own_form hown7
          have HY7 := Lib.hid (Reads.of_own hown7)
          have HB7 := Lib.hid (HB6.out.trans (hb7.mono HB6.out.size))
          have HX7 := Lib.hid (HX6.out.next hb7 (by omega))
          clear hown7 hb7 Q6 HB6 HX6
          -- worth
          have q7 := vworthE_any l C c3 w7 ((RL.out.below HB7.out).more HB7.out.size) (by rw [N3.out]; omega) FL.out
          rw [N3.out] at q7
          obtain ⟨UV, UE, hU⟩ : ∃ x y, Vl.wf 0 l = (x, y) := ⟨_, _, rfl⟩
          obtain ⟨VV, VE, hV⟩ : ∃ x y, Vl.wf 0 m = (x, y) := ⟨_, _, rfl⟩
          obtain ⟨GV, GE, hG⟩ : ∃ x y, Vl.wf 0 (l ++ m) = (x, y) := ⟨_, _, rfl⟩
          have hlaw := Vl.wf_law l m
          have hcU := Vl.wf_cases l 0
          have hcV := Vl.wf_cases m 0
          rw [hU, hV, hG] at hlaw
          rw [hU] at hcU q7
          rw [hV] at hcV
          have HU := Lib.hid hU; have HV := Lib.hid hV; have HG := Lib.hid hG; have HLAW := Lib.hid hlaw; have HCU := Lib.hid hcU; have HCV := Lib.hid hcV
          have Q7 := Lib.hid q7
          clear hU hV hG hlaw hcU hcV q7
          go_wp2_with fail
          refine Q7.out.mono ?_
          rintro e w8 ⟨rfl, hb8⟩
          have hz8w := hb8.size
          have HB8 := Lib.hid (HB7.out.trans (hb8.mono HB7.out.size))
          have HX8 := Lib.hid (HX7.out.next hb8 (by omega))
          have HY8 := Lib.hid (HY7.out.next hb8 (Nat.le_refl _))
          clear hb8 Q7 HB7 HX7 HY7
          have q8 := vworthE_any m D c4 w8 ((RM.out.below HB8.out).more HB8.out.size) (by rw [N4.out]; omega) FM.out
          rw [N4.out, HV.out] at q8
          have Q8 := Lib.hid q8
          clear q8
          go_wp2_with fail
          refine Q8.out.mono ?_
          rintro e w9 ⟨rfl, hb9⟩
          have hz9w := hb9.size
          have HB9 := Lib.hid (HB8.out.trans (hb9.mono HB8.out.size))
          have HX9 := Lib.hid (HX8.out.next hb9 (by omega))
          have HY9 := Lib.hid (HY8.out.next hb9 (by omega))
          clear hb9 Q8 HB8 HX8 HY8
          go_wp2_with (at_builtin; refine wpList_append_any _ rfl _ _ 22 rfl w9.heap.size 27 i0 (.agg #[.string ⟨#[]⟩, .bool false, .bool false, .int .i64 0, .int .i64 0, .int .i64 0, .int .i64 0, .int .i64 0, .int .i64 0]) 9 72 Try.underlying22 hi hz0 hz1 hz2 rfl (by decide) (.slice none 0 0) 0 [] rfl (World.ownsRow_nil w9 _ _ _) w.heap.size C n3 c3 (Vl.stCells l) rfl ?c1 ?c2 (by unfold maxLen; omega) (by omega) (by omega) ?_)
          case c1 => rw [← N3.out]; exact (RL.out.below HB9.out).reads
          case c2 => exact Vl.stCells_one l
          intro v10 w10 hown10 hgrow10 _
          have hb10 : Below w9.heap.size w9 w10 := (Below.refl _ _).grown hgrow10 (Nat.le_refl _) (fun q hq => by cases hq)
          have hz10w := hb10.size
          have HO10 : Hid (w10.ownsRow w9.heap.size 27 9 v10 n3 (Vl.stCells l)) := by
            show World.ownsRow _ _ _ _ _ _ _
            simpa using hown10
          have HBA := Lib.hid hb10
          clear hown10 hgrow10 hb10
          go_wp2_with (at_builtin; refine wpList_append_any _ rfl _ _ 22 rfl w9.heap.size 27 i0 (.agg #[.string ⟨#[]⟩, .bool false, .bool false, .int .i64 0, .int .i64 0, .int .i64 0, .int .i64 0, .int .i64 0, .int .i64 0]) 9 72 Try.underlying22 hi hz0 hz1 hz2 rfl (by decide) _ _ _ rfl HO10.out w.heap.size D n4 c4 (Vl.stCells m) rfl ?c1 ?c2 (by unfold maxLen; omega) (by omega) (by omega) ?_)
          case c1 => rw [← N4.out]; exact ((RM.out.below HB9.out).below (HBA.out.mono HB9.out.size)).reads
          case c2 => exact Vl.stCells_one m
          intro v11 w11 hown11 hgrow11 _
          have hb11 : Below w9.heap.size w9 w11 := HBA.out.grown hgrow11 hz10w (fun q hq => (HO10.out.lt q hq).1)
          have hz11w := hb11.size
          have hown11' : w11.ownsRow w9.heap.size 27 9 v11 (l ++ m).length (Vl.stCells (l ++ m)) := by
            rw [Vl.stCells_app, List.length_append, N3.out, N4.out]
            exact hown11
          obtain ⟨Z11, d11, rfl, hst11⟩ := sts_own hown11'
          have hlm2 : (l ++ m).length = n3 + n4 := by rw [List.length_append, N3.out, N4.out]
          have q11 := vworthE_any (l ++ m) Z11 d11 w11 hst11 (by omega) (fun x hx => (List.mem_append.1 hx).elim (FL.out x) (FM.out x))
          rw [HG.out] at q11
          rw [hlm2] at q11 ⊢
          have Q11 := Lib.hid q11
          have HB11 := Lib.hid (HB9.out.trans (hb11.mono HB9.out.size))
          have HX11 := Lib.hid (HX9.out.next hb11 (by omega))
          have HY11 := Lib.hid (HY9.out.next hb11 (by omega))
          clear hown11 hgrow11 hb11 hown11' hst11 q11 hlm2 HO10 HBA HB9 HX9 HY9
          go_wp2_with fail
          refine Q11.out.mono ?_
          rintro e w12 ⟨rfl, hb12⟩
          have hz12w := hb12.size
          have HB12 := Lib.hid (HB11.out.trans (hb12.mono HB11.out.size))
          have HX12 := Lib.hid (HX11.out.next hb12 (by omega))
          have HY12 := Lib.hid (HY11.out.next hb12 (by omega))
          clear hb12 Q11 HB11 HX11 HY11
          have hways : (∃ u v : Nat, UV = u ∧ VV = v ∧ u ≤ 1152921504606846976 ∧ v ≤ 1152921504606846976 ∧ UE = 0 ∧ VE = 0 ∧ (u + v ≤ 1152921504606846976 → GV = ((u + v : Nat) : Int) ∧ GE = 0)) ∨ (UE ≠ 0 ∧ GE ≠ 0) ∨ (UE = 0 ∧ VE ≠ 0 ∧ GE ≠ 0) := by
            rcases HCU.out with ⟨e, h1, h2⟩ | ⟨u, h1, _, h2⟩
            · injection h1 with h1 h1'
              subst h1'
              exact .inr (.inl ⟨h2, HLAW.out.2 (fun h => h2 h.1)⟩)
            · injection h1 with h1 h1'
              rcases HCV.out with ⟨e, g1, g2⟩ | ⟨v, g1, _, g2⟩
              · injection g1 with g1 g1'
                subst g1'
                exact .inr (.inr ⟨h1', g2, HLAW.out.2 (fun h => g2 h.2)⟩)
              · injection g1 with g1 g1'
                refine .inl ⟨u, v, h1, g1, h2 (by omega), g2 (by omega), h1', g1', fun hs => ?_⟩
                have h9 := HLAW.out.1 u v (by rw [h1, h1']) (by rw [g1, g1']) hs
                injection h9 with h9 h9'
                exact ⟨h9, h9'⟩
          clear HCU HCV HLAW HU HV HG
          have fin : ∀ W, Below w12.heap.size w12 W → Calls Try.prog 13 #[.slice ZX n3x dX, .slice ZY n3x dY] W fun e w' => e = .returned (.bool true) ∧ Below W.heap.size W w' := fun W hb => same_pledges (Mg.merge (a ++ b)) n3x HNX.out (by omega) ZX ZY dX dY _ _ W (HX12.out.next hb (by omega)) (HY12.out.next hb (by omega))
          have FIN := Lib.hid fin
          clear fin HX12 HY12
          rcases hways with ⟨u, v, rfl, rfl, hu, hv, rfl, rfl, hs⟩ | ⟨h1e, h2e⟩ | ⟨rfl, h1e, h2e⟩
          · by_cases hsum : u + v ≤ 1152921504606846976
            · obtain ⟨rfl, rfl⟩ := hs hsum
              go_wp2_with fail
              refine (alive20_any _).mono ?_
              rintro e w13 ⟨rfl, hb13⟩
              have qs := FIN.out w13 hb13
              have HB13 := Lib.hid (HB12.out.trans (hb13.mono HB12.out.size))
              clear hb13
              go_wp2_with fail
              refine qs.mono ?_
              rintro e w14 ⟨rfl, hb14⟩
              have HB14 := Lib.hid (HB13.out.trans (hb14.mono HB13.out.size))
              clear hb14 qs
              go_wp2
              go_ret
              exact ⟨rfl, HB14.out⟩
            · clear hs
              go_wp2_with fail
              refine (alive20_any _).mono ?_
              rintro e w13 ⟨rfl, hb13⟩
              have qs := FIN.out w13 hb13
              have HB13 := Lib.hid (HB12.out.trans (hb13.mono HB12.out.size))
              clear hb13
              go_wp2_with fail
              refine qs.mono ?_
              rintro e w14 ⟨rfl, hb14⟩
              have HB14 := Lib.hid (HB13.out.trans (hb14.mono HB13.out.size))
              clear hb14 qs
              go_wp2
              go_ret
              exact ⟨rfl, HB14.out⟩
          · have e1 : (UE == 0) = false := by simp [h1e]
            have e2 : (GE != 0) = true := by simp [h2e]
            go_wp2_with fail
            refine (alive20_any _).mono ?_
            rintro e w13 ⟨rfl, hb13⟩
            have qs := FIN.out w13 hb13
            have HB13 := Lib.hid (HB12.out.trans (hb13.mono HB12.out.size))
            clear hb13
            go_wp2_with fail
            refine qs.mono ?_
            rintro e w14 ⟨rfl, hb14⟩
            have HB14 := Lib.hid (HB13.out.trans (hb14.mono HB13.out.size))
            clear hb14 qs
            go_wp2
            go_ret
            exact ⟨rfl, HB14.out⟩
          · have e1 : (VE == 0) = false := by simp [h1e]
            have e2 : (GE != 0) = true := by simp [h2e]
            go_wp2_with fail
            refine (alive20_any _).mono ?_
            rintro e w13 ⟨rfl, hb13⟩
            have qs := FIN.out w13 hb13
            have HB13 := Lib.hid (HB12.out.trans (hb13.mono HB12.out.size))
            clear hb13
            go_wp2_with fail
            refine qs.mono ?_
            rintro e w14 ⟨rfl, hb14⟩
            have HB14 := Lib.hid (HB13.out.trans (hb14.mono HB13.out.size))
            clear hb14 qs
            go_wp2
            go_ret
            exact ⟨rfl, HB14.out⟩
end Go.Proofs.Ytiekolbkmgdfoaa
