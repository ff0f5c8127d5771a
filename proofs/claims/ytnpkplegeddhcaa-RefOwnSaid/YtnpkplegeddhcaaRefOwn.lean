/-
  The walk of RefOwn: an account is of a party that there is; the accounts of all parties are all accounts.
  Conditions: parties and accounts, in lists that the call reads.
-/
import Derived.Test.YtnpkplegeddhcaaRefOwnPlain
namespace Go.Proofs.Ytnpkplegeddhcaa
open Go.RowKit Go.Maps Go.Shelf

theorem RowsAt.keep {α : Type} [Kd α] {w w' : World} {B N : Nat} {A : Option Addr} {l : List α} (h : RowsAt w B A N l) (hb : Below B w w') : RowsAt w' B A N l := ⟨fun hn => by
  obtain ⟨ad, e, hB, hc⟩ := h.row hn
  exact ⟨ad, e, hB, fun k x hx j v hv => (hb.cell (by rw [block_of_add, block_of_add]; exact hB)).trans (hc k x hx j v hv)⟩⟩
theorem rown_long (n n' : Nat) (A A' : Option Addr) (c c' : Nat) (w : World) (hn : n ≤ 9223372036854775807) (hn' : n' ≤ 9223372036854775807) (h : 30 < n ∨ (n ≤ 30 ∧ 30 < n')) :
    Calls Try.prog 4 #[.slice A n c, .slice A' n' c'] w fun e w' => e = .returned (.bool true) ∧ Below w.heap.size w w' := by
  rcases h with h | ⟨h1, h2⟩
  all_goals
    go_enter Try.func4, Try.ntmps4
    go_wp2_with fail
    refine (alive9_any _).mono ?_
    rintro e w1 ⟨rfl, hb1⟩
    go_wp2
    go_ret
    exact ⟨rfl, hb1⟩
set_option maxHeartbeats 40000000 in
set_option maxRecDepth 10000 in
theorem rown_main (l : List Party) (m : List Account) (A A' : Option Addr) (c c' : Nat) (w : World) (hr : RowsAt w w.heap.size A 2 l) (hr' : RowsAt w w.heap.size A' 2 m) (hl : l.length ≤ 30) (hm : m.length ≤ 30) (hx : ∀ x ∈ m, x.party.size ≤ 9223372036854775807) :
    Calls Try.prog 4 #[.slice A l.length c, .slice A' m.length c'] w fun e w' => e = .returned (.bool true) ∧ Below w.heap.size w w' := by
  obtain ⟨n, hn⟩ : ∃ n, l.length = n := ⟨_, rfl⟩
  obtain ⟨n', hn'⟩ : ∃ n', m.length = n' := ⟨_, rfl⟩
  rw [hn] at hl ⊢
  rw [hn'] at hm ⊢
  have Hn := Lib.hid hn; have Hn' := Lib.hid hn'
  have HR := Lib.hid hr; have HR' := Lib.hid hr'; have HX := Lib.hid hx
  clear hn hn' hr hr' hx
  go_enter Try.func4, Try.ntmps4
  go_wp2_with fail
  refine (new_nil w).mono ?_
  rintro e w1 ⟨r, rfl, hr, hk1, hb1, _⟩
  have HB1 := Lib.hid hb1; have HK1 := Lib.hid hk1
  clear hk1 hb1
  go_wp2
  go_loopw [6] (fun i wr => ∃ (k : Nat) (st : Rf), k ≤ n ∧ i = .int .i64 k ∧ Hid (Inv st) ∧ Hid (RefAt r st wr) ∧ Hid (Below w.heap.size w wr)) (fun i _ => n - (intOf i).toNat)
  case atStart => exact ⟨0, rf0, Nat.zero_le _, rfl, inv0, HK1.out, HB1.out⟩
  case round =>
    obtain ⟨k, st, hk, rfl, HI, HK, HB⟩ := hrel
    clear HB1 HK1
    by_cases hlt : k < n
    · obtain ⟨ad, y, rfl, hab, hyk, hym, hc⟩ := HR.out.at_ (show k < l.length by rw [Hn.out]; exact hlt)
      have hc' : ∀ j v, (Kd.val y).cells[j]? = some v → wr.cell? ((ad.add (k * 2)).add j) = some v := fun j v hj => (HB.out.cell (by rw [block_of_add, block_of_add]; exact hab)).trans (hc j v hj)
      have e0 : wr.cell? (ad.add (k * 2)) = some (.string y.name) := by have h := hc' 0 _ rfl; rw [show (ad.add (k * 2)).add 0 = ad.add (k * 2) from by rw [add_of_add]; rfl] at h; exact h
      have e1 : wr.cell? ⟨(ad.add (k * 2)).block, (ad.add (k * 2)).off + 1, none⟩ = some (.int .i64 y.limit) := hc' 1 _ rfl
      have hb0 : Below wr.heap.size wr (wr.alloc (.cells #[.string y.name, .int .i64 y.limit] 37)) := (Below.refl _ _).alloc (Nat.le_refl _) _
      have C1 := addParties_any r st HI.out.ok [y] (some ⟨wr.heap.size, 0, none⟩) 1 _ (HK.out.below hb0) (rows_newN (N := 2) wr ([y] : List Party) 37 #[.string y.name, .int .i64 y.limit] rfl (fun _ _ => rfl)) (by simp)
      have HI2 := Lib.hid (inv_addP HI.out y)
      obtain ⟨g, hg⟩ : ∃ g, errP st [y] = g := ⟨_, rfl⟩
      obtain ⟨st2, hst2⟩ : ∃ st2, addP st [y] = st2 := ⟨_, rfl⟩
      rw [hg, hst2] at C1
      rw [hst2] at HI2
      have C2 : Calls Try.prog 12 #[.pointer (some ⟨r, 0, none⟩), .slice (some ⟨wr.heap.size, 0, none⟩) 1 1] (wr.alloc (.cells #[.string y.name, .int .i64 y.limit] 37)) fun e w' => e = .returned (.int .i64 g) ∧ RefAt r st2 w' ∧ MvL r (wr.alloc (.cells #[.string y.name, .int .i64 y.limit] 37)) w' := C1
      clear hg hst2 hb0 C1 hc hc' hyk hym
      go_wp2_with fail
      refine C2.mono ?_
      rintro e w4 ⟨rfl, hk4, hm4⟩
      have HK4 := Lib.hid hk4
      have HB4 := Lib.hid ((HB.out.alloc HB.out.size (.cells #[.string y.name, .int .i64 y.limit] 37)).trans (hm4.mv.below (by simpa using hr) (by have := HB.out.size; simp; omega)))
      clear hk4 hm4 C2 e0 e1 HK HB HI
      go_wp2
      go_roundw
      case rel => exact ⟨k + 1, st2, hlt, by go_num, HI2.out, HK4.out, HB4.out⟩
      case measure => simp [intOf]; omega
    · obtain rfl : k = n := by omega
      go_wp2
      go_loopw [7] (fun i wr => ∃ (k : Nat) (st : Rf), k ≤ n' ∧ i = .int .i64 k ∧ Hid (Inv st) ∧ Hid (RefAt r st wr) ∧ Hid (Below w.heap.size w wr)) (fun i _ => n' - (intOf i).toNat)
      case atStart => exact ⟨0, st, Nat.zero_le _, rfl, HI.out, HK.out, HB.out⟩
      case round =>
        clear HI HK HB hk hlt
        obtain ⟨k, st, hk, rfl, HI, HK, HB⟩ := hrel
        by_cases hlt : k < n'
        · obtain ⟨ad, y, rfl, hab, hyk, hym, hc⟩ := HR'.out.at_ (show k < m.length by rw [Hn'.out]; exact hlt)
          have hc' : ∀ j v, (Kd.val y).cells[j]? = some v → wr.cell? ((ad.add (k * 2)).add j) = some v := fun j v hj => (HB.out.cell (by rw [block_of_add, block_of_add]; exact hab)).trans (hc j v hj)
          have e0 : wr.cell? (ad.add (k * 2)) = some (.string y.name) := by have h := hc' 0 _ rfl; rw [show (ad.add (k * 2)).add 0 = ad.add (k * 2) from by rw [add_of_add]; rfl] at h; exact h
          have e1 : wr.cell? ⟨(ad.add (k * 2)).block, (ad.add (k * 2)).off + 1, none⟩ = some (.string y.party) := hc' 1 _ rfl
          have hb0 : Below wr.heap.size wr (wr.alloc (.cells #[.string y.name, .string y.party] 40)) := (Below.refl _ _).alloc (Nat.le_refl _) _
          have C1 := addAccounts_any r st HI.out.ok [y] (some ⟨wr.heap.size, 0, none⟩) 1 _ (HK.out.below hb0) (rows_newN (N := 2) wr ([y] : List Account) 40 #[.string y.name, .string y.party] rfl (fun _ _ => rfl)) (by simp) (by intro x h; simp at h; subst h; exact HX.out _ hym)
          have HI2 := Lib.hid (inv_addC HI.out y)
          obtain ⟨g, hg⟩ : ∃ g, errC st [y] = g := ⟨_, rfl⟩
          obtain ⟨st2, hst2⟩ : ∃ st2, addC st [y] = st2 := ⟨_, rfl⟩
          rw [hg, hst2] at C1
          rw [hst2] at HI2
          have C2 : Calls Try.prog 13 #[.pointer (some ⟨r, 0, none⟩), .slice (some ⟨wr.heap.size, 0, none⟩) 1 1] (wr.alloc (.cells #[.string y.name, .string y.party] 40)) fun e w' => e = .returned (.int .i64 g) ∧ RefAt r st2 w' ∧ MvL r (wr.alloc (.cells #[.string y.name, .string y.party] 40)) w' := C1
          clear hg hst2 hb0 C1 hc hc' hyk hym
          go_wp2_with fail
          refine C2.mono ?_
          rintro e w4 ⟨rfl, hk4, hm4⟩
          have HK4 := Lib.hid hk4
          have HB4 := Lib.hid ((HB.out.alloc HB.out.size (.cells #[.string y.name, .string y.party] 40)).trans (hm4.mv.below (by simpa using hr) (by have := HB.out.size; simp; omega)))
          clear hk4 hm4 C2 e0 e1 HK HB HI
          go_wp2
          go_roundw
          case rel => exact ⟨k + 1, st2, hlt, by go_num, HI2.out, HK4.out, HB4.out⟩
          case measure => simp [intOf]; omega
        · obtain rfl : k = n' := by omega
          have C1 := allP_any r st HI.out.ok wr HK.out
          obtain ⟨a, ha⟩ : ∃ a, (rowsOf Party st.p).length = a := ⟨_, rfl⟩
          have ha20 : a ≤ 20 := by rw [← ha, rows_len HI.out.ok.gp]; exact HI.out.ok.np
          rw [ha] at C1
          have HA := Lib.hid ha
          clear ha
          go_wp2_with fail
          refine C1.mono ?_
          rintro e w5 ⟨A5, c5, rfl, hr5, hb5⟩
          have HB5 := Lib.hid (HB.out.trans (hb5.mono HB.out.size))
          have HK5 := Lib.hid (HK.out.below hb5)
          have HR5 := Lib.hid hr5
          clear hb5 hr5 HK HB C1 HR HR' HX Hn Hn'
          go_wp2
          go_loopw [9, 10] (fun u i wr => ∃ k : Nat, k ≤ a ∧ i = .int .i64 k ∧ u = .int .i64 (sumTo st k : Nat) ∧ Hid (Below w5.heap.size w5 wr)) (fun _ i _ => a - (intOf i).toNat)
          case atStart => exact ⟨0, Nat.zero_le _, rfl, rfl, Below.refl _ _⟩
          case round =>
            obtain ⟨k, hk, rfl, rfl, HW⟩ := hrel
            by_cases hka : k < a
            · obtain ⟨ad, y, rfl, hab, hyk, hym, hc⟩ := HR5.out.at_ (show k < (rowsOf Party st.p).length by rw [HA.out]; exact hka)
              have hc0 : ∀ W, Below w5.heap.size w5 W → W.cell? (ad.add (k * 2)) = some (.string y.name) := by
                intro W hW
                have h := (hW.cell (p := (ad.add (k * 2)).add 0) (by rw [block_of_add, block_of_add]; exact hab)).trans (hc 0 _ rfl)
                rw [show (ad.add (k * 2)).add 0 = ad.add (k * 2) from by rw [add_of_add]; rfl] at h
                exact h
              have HC0 := Lib.hid hc0
              have e0 := hc0 wr HW.out
              have hpa := party_at HI.out hyk
              have HPA := Lib.hid hpa
              obtain ⟨p, hp⟩ : ∃ p, y.name = p := ⟨_, rfl⟩
              rw [hp] at HC0 e0 HPA
              have C2 := accounts_any r st HI.out.ok p wr (HK5.out.below HW.out)
              obtain ⟨b, hb⟩ : ∃ b, (ownRows st p).length = b := ⟨_, rfl⟩
              have hb20 : b ≤ 20 := by rw [← hb]; exact own_le st HI.out.ok p
              have hsum : sumTo st (k + 1) = sumTo st k + b := by rw [← hb]; exact sum_succ HPA.out.1
              have hsle := sum_le st HI.out.ok k
              have HSUM := Lib.hid hsum
              rw [hb] at C2
              have HBB := Lib.hid hb
              have HYK := Lib.hid hyk
              obtain ⟨q, hq⟩ : ∃ q, sumTo st k = q := ⟨_, rfl⟩
              rw [hq] at hsle HSUM ⊢
              clear hc hc0 hpa hp hb hsum hyk hym hq
              go_wp2_with fail
              refine C2.mono ?_
              rintro e w6 ⟨A6, c6, rfl, hr6, hb6⟩
              have HW6 := Lib.hid (HW.out.trans (hb6.mono HW.out.size))
              have HR6 := Lib.hid hr6
              clear hr6 hb6 C2 HW e0
              go_wp2
              go_loopw [12] (fun i wr => ∃ j : Nat, j ≤ b ∧ i = .int .i64 j ∧ Hid (Below w6.heap.size w6 wr)) (fun i _ => b - (intOf i).toNat)
              case atStart => exact ⟨0, Nat.zero_le _, rfl, Below.refl _ _⟩
              case round =>
                obtain ⟨j, hj, rfl, HV⟩ := hrel
                have HWV := Lib.hid (HW6.out.trans (HV.out.mono HW6.out.size))
                by_cases hjb : j < b
                · obtain ⟨ae, x, rfl, hae, hxj, hxm, hd⟩ := HR6.out.at_ (show j < (ownRows st p).length by rw [HBB.out]; exact hjb)
                  obtain ⟨hxp, hxn⟩ := own_mem HI.out HPA.out.2 hxm
                  have hd' : ∀ i v, (Kd.val x).cells[i]? = some v → wr.cell? ((ae.add (j * 2)).add i) = some v := fun i v hi => (HV.out.cell (by rw [block_of_add, block_of_add]; exact hae)).trans (hd i v hi)
                  have f0 : wr.cell? (ae.add (j * 2)) = some (.string x.name) := by have h := hd' 0 _ rfl; rw [show (ae.add (j * 2)).add 0 = ae.add (j * 2) from by rw [add_of_add]; rfl] at h; exact h
                  have f1 : wr.cell? ⟨(ae.add (j * 2)).block, (ae.add (j * 2)).off + 1, none⟩ = some (.string p) := by rw [← hxp]; exact hd' 1 _ rfl
                  have e0 := HC0.out wr HWV.out
                  have hvx : validS x.name = true := hxn.elim id (fun h => by rw [h]; decide +kernel)
                  clear hd hd' hxj hxm hxp hxn
                  have V2 : ∀ W : World, Calls Try.prog 16 #[.string x.name] W fun e w' => e = .returned (.bool true) ∧ w' = W := fun W => (valid_any x.name W).mono (fun e w' h => ⟨by rw [h.1, hvx], h.2.symm⟩)
                  clear hvx
                  go_wp2
                  go_quiet (first | (go_at_call 16; refine Calls.quiet_of_same (V2 _)))
                  clear V2 f0 f1 e0
                  rename_i nq
                  go_wp2
                  go_roundw
                  case rel => exact ⟨j + 1, by omega, by go_num, drewN_below HV.out _⟩
                  case measure => simp [intOf]; omega
                · obtain rfl : j = b := by omega
                  clear hjb hj
                  have HB6 := Lib.hid (HB5.out.trans (HWV.out.mono HB5.out.size))
                  by_cases hk0 : k = 0
                  · subst hk0
                    go_wp2
                    go_quiet (fail)
                    go_wp2
                    go_roundw
                    case rel =>
                      refine ⟨0 + 1, by omega, by go_num, ?_, drewN_below HWV.out _⟩
                      rw [HSUM.out]
                      rfl
                    case measure => simp [intOf]; omega
                  · obtain ⟨t, ht⟩ : ∃ t, t + 1 = k := ⟨k - 1, by omega⟩
                    obtain ⟨ad', y', had, _, hyt, _, hct⟩ := HR5.out.at_ (show t < (rowsOf Party st.p).length by rw [HA.out]; omega)
                    injection had with had
                    subst had
                    have hct0 := (HWV.out.cell (p := (ad.add (t * 2)).add 0) (by rw [block_of_add, block_of_add]; exact hab)).trans (hct 0 _ rfl)
                    rw [show (ad.add (t * 2)).add 0 = ad.add (t * 2) from by rw [add_of_add]; rfl] at hct0
                    have hlt2 := lstS_lt HI.out.ok.gp.keys (show t < k by omega) (party_at HI.out hyt).1 HPA.out.1
                    have hcm : cmpS y'.name p = -1 := by rcases cmp_cases y'.name p with ⟨h, _⟩ | ⟨h, _⟩ | ⟨h, _⟩ <;> omega
                    have V2 : ∀ W : World, Calls Try.prog 17 #[.string y'.name, .string p] W fun e w' => e = .returned (.int .i64 (-1)) ∧ w' = W := fun W => (compare_any y'.name p W).mono (fun e w' h => ⟨by rw [h.1, hcm], h.2.symm⟩)
                    have e0 := HC0.out wr HWV.out
                    have i1 : IntKind.i64.wrap ((k : Int) - 1) = (t : Int) := by rw [IntKind.wrap_i64]; omega
                    have i2 : (k : Int) - 1 = (t : Int) := by omega
                    have i3 : (0 : Int) < (k : Int) := by omega
                    have i6 : 0 < k := by omega
                    have i7 : (decide (k = 0)) = false := decide_eq_false hk0
                    have i4 : (t : Int) < (a : Int) := by omega
                    have i5 : (0 : Int) ≤ (t : Int) := by omega
                    have HT := Lib.hid ht
                    clear ht hyt hct hlt2 hcm
                    go_wp2
                    go_quiet (first | (go_at_call 17; refine Calls.quiet_of_same (V2 _)))
                    clear V2 e0 hct0 i1 i2 i3 i4 i5 i6 i7
                    go_wp2
                    go_roundw
                    case rel =>
                      refine ⟨k + 1, by omega, by go_num, ?_, drewN_below HWV.out _⟩
                      rw [HSUM.out]
                      rfl
                    case measure => simp [intOf]; omega
            · obtain rfl : k = a := by omega
              have hs := sum_all HI.out
              rw [HA.out] at hs
              have hle := own_le st HI.out.ok ⟨#[]⟩
              rw [← hs] at hle
              have HS := Lib.hid hs
              have HBW := Lib.hid (HB5.out.trans (HW.out.mono HB5.out.size))
              have HKW := Lib.hid (HK5.out.below HW.out)
              obtain ⟨q, hq⟩ : ∃ q, sumTo st k = q := ⟨_, rfl⟩
              rw [hq] at hle HS ⊢
              clear hs hq HW HB5 HK5
              go_wp2_with fail
              refine (alive9_any _).mono ?_
              rintro e w7 ⟨rfl, hb7⟩
              have HB7 := Lib.hid (HBW.out.trans (hb7.mono HBW.out.size))
              have C2 := accounts_any r st HI.out.ok ⟨#[]⟩ w7 (HKW.out.below hb7)
              rw [← HS.out] at C2
              clear hb7 HBW HKW
              go_wp2_with fail
              refine C2.mono ?_
              rintro e w8 ⟨A8, c8, rfl, _, hb8⟩
              have HB8 := Lib.hid (HB7.out.trans (hb8.mono HB7.out.size))
              clear hb8 C2
              go_wp2
              go_ret
              exact ⟨ret_bool (by simp; omega), HB8.out⟩
theorem rown_walk (l : List Party) (m : List Account) (A A' : Option Addr) (c c' : Nat) (w : World) (hr : RowsAt w w.heap.size A 2 l) (hr' : RowsAt w w.heap.size A' 2 m) (hl : l.length ≤ 9223372036854775807) (hm : m.length ≤ 9223372036854775807) (hx : ∀ x ∈ m, x.party.size ≤ 9223372036854775807) :
    Calls Try.prog 4 #[.slice A l.length c, .slice A' m.length c'] w fun e w' => e = .returned (.bool true) ∧ Below w.heap.size w w' := by
  by_cases h1 : l.length ≤ 30
  · by_cases h2 : m.length ≤ 30
    · exact rown_main l m A A' c c' w hr hr' h1 h2 hx
    · exact rown_long _ _ _ _ _ _ w hl hm (.inr ⟨h1, by omega⟩)
  · exact rown_long _ _ _ _ _ _ w hl hm (.inl (by omega))
end Go.Proofs.Ytnpkplegeddhcaa
