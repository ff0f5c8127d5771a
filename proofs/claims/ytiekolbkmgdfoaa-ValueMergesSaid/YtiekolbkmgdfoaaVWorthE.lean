/-
  Package value's Worth as a contract, with each error; the worth of two lists and of both.
  Conditions: stocks in a list that the call reads.
-/
import Derived.Test.YtiekolbkmgdfoaaVWorth
namespace Go.Proofs.Ytiekolbkmgdfoaa
open Go.RowKit

set_option maxHeartbeats 1000000 in
theorem add_over (g : Nat) (zs : List Nat) (A : Option Addr) (cp B : Nat) (w : World) (hr : Reads w B 1 A zs.length (ints (zs.map Int.ofNat))) (hl : zs.length ≤ 1000000) (hs : sumL zs ≤ 4611686018427387904) (hs1 : 1152921504606846976 < sumL zs) (c0 : w.cell? ⟨g, 0, none⟩ = some (.bool false)) (f0 : w.frozen? ⟨g, 0, none⟩ = false) :
    Calls Try.prog 10 #[.pointer (some ⟨g, 0, none⟩), .slice A zs.length cp] w fun e w' => e = .returned (.int .i64 1152921504606846976) ∧ w.setCell ⟨g, 0, none⟩ (.bool true) = w' := by
  obtain ⟨n, hn⟩ : ∃ n, zs.length = n := ⟨_, rfl⟩
  rw [hn] at hr hl ⊢
  have Hn := Lib.hid hn; clear hn
  have Hr := Lib.hid hr; clear hr
  have HO := Lib.hid (over_any g w c0 f0)
  clear c0 f0
  go_enter Try.func10, Try.ntmps10
  go_wp2
  go_loop [5, 6, 15] (fun hi lo i => ∃ (k s : Nat), k ≤ n ∧ i = .int .i64 k ∧ hi = .int .u64 0 ∧ lo = .int .u64 s ∧ Hid (s = sumL (zs.take k))) (fun _ _ i => n - (intOf i).toNat)
  case atStart => exact ⟨0, 0, Nat.zero_le _, rfl, rfl, rfl, rfl⟩
  case round =>
    obtain ⟨k, s, hk, rfl, rfl, rfl, HS⟩ := hrel
    by_cases hlt : k < n
    · obtain ⟨ad, v, rfl, hab, hvk, hc⟩ := int_at Hr.out hlt
      obtain ⟨z, hz, rfl⟩ : ∃ z : Nat, zs[k]? = some z ∧ v = z := by
        simp only [List.getElem?_map, Option.map_eq_some_iff] at hvk
        obtain ⟨z, h1, h2⟩ := hvk
        exact ⟨z, h1, h2.symm⟩
      have hst := sumL_take hz
      rw [← HS.out] at hst
      have hle := sumL_le zs (k + 1)
      have hb : s + z ≤ 4611686018427387904 := by omega
      have HST := Lib.hid hst; clear hst hle hvk
      have Hz := Lib.hid hz; clear hz
      have hsh : (z : Int) / 9223372036854775808 = 0 := by omega
      have ha := add64_small s z (by omega) w
      have ha0 := add64_none w
      go_wp2
      go_round
      case rel => exact ⟨k + 1, s + z, by omega, by go_num, rfl, by go_num, by show _ = _; exact HST.out.symm⟩
      case measure => simp [intOf]; omega
    · obtain rfl : k = n := by omega
      have HS2 : s = sumL zs := by
        have h1 := HS.out
        rw [List.take_of_length_le (Nat.le_of_eq Hn.out)] at h1
        exact h1
      have hb : s ≤ 4611686018427387904 := by omega
      have hb1 : 1152921504606846976 < s := by omega
      have hsh : (s : Int) / 9223372036854775808 = 0 := by omega
      clear HS2
      go_wp2_with fail
      refine HO.out.mono ?_
      rintro e w' ⟨rfl, rfl⟩
      go_wp2
      go_ret
      exact ⟨rfl, rfl⟩

namespace Vl
/-- What stocks are worth, or the first error. -/
def wf : Nat → List St → Int × Int
  | s, [] => (s, 0)
  | s, x :: r => if x.pl = false then wf s r else if Wo.wE x.q x.p x.c ≠ 0 then (0, Wo.wE x.q x.p x.c) else if 1152921504606846976 < s + (Wo.wV x.q x.p x.c).toNat then (0, 12) else wf (s + (Wo.wV x.q x.p x.c).toNat) r
theorem wf_free {s : Nat} {x : St} {r : List St} (h : x.pl = false) : wf s (x :: r) = wf s r := if_pos h
theorem wf_bad {s : Nat} {x : St} {r : List St} (h : x.pl = true) (he : Wo.wE x.q x.p x.c ≠ 0) : wf s (x :: r) = (0, Wo.wE x.q x.p x.c) := by
  unfold wf
  rw [if_neg (by rw [h]; decide), if_pos he]
theorem wf_over {s : Nat} {x : St} {r : List St} (h : x.pl = true) (he : Wo.wE x.q x.p x.c = 0) (ho : 1152921504606846976 < s + (Wo.wV x.q x.p x.c).toNat) : wf s (x :: r) = (0, 12) := by
  conv => lhs; unfold wf
  rw [if_neg (by rw [h]; decide), if_neg (by rw [he]; decide), if_pos ho]
theorem wf_more {s : Nat} {x : St} {r : List St} (h : x.pl = true) (he : Wo.wE x.q x.p x.c = 0) (ho : ¬ 1152921504606846976 < s + (Wo.wV x.q x.p x.c).toNat) : wf s (x :: r) = wf (s + (Wo.wV x.q x.p x.c).toNat) r := by
  conv => lhs; unfold wf
  rw [if_neg (by rw [h]; decide), if_neg (by rw [he]; decide), if_neg ho]
/-- With an error the value is 0; without one it is the sum. -/
theorem wf_cases : ∀ (l : List St) (s : Nat), (∃ e, wf s l = (0, e) ∧ e ≠ 0) ∨ (∃ t : Nat, wf s l = ((t : Int), 0) ∧ s ≤ t ∧ (s ≤ 1152921504606846976 → t ≤ 1152921504606846976))
  | [], s => .inr ⟨s, rfl, Nat.le_refl _, id⟩
  | x :: r, s => by
    cases hp : x.pl
    · rw [wf_free hp]; exact wf_cases r s
    · by_cases he : Wo.wE x.q x.p x.c = 0
      · by_cases ho : 1152921504606846976 < s + (Wo.wV x.q x.p x.c).toNat
        · rw [wf_over hp he ho]; exact .inl ⟨12, rfl, by decide⟩
        · rw [wf_more hp he ho]
          rcases wf_cases r (s + (Wo.wV x.q x.p x.c).toNat) with h | ⟨t, h1, h2, h3⟩
          · exact .inl h
          · exact .inr ⟨t, h1, by omega, fun _ => h3 (by omega)⟩
      · rw [wf_bad hp he]; exact .inl ⟨_, rfl, he⟩
/-- Another beginning. -/
theorem wf_shift : ∀ (l : List St) (s t u : Nat), wf s l = ((t : Int), 0) → (u + (t - s) ≤ 1152921504606846976 → wf u l = (((u + (t - s) : Nat) : Int), 0)) ∧ (u ≤ 1152921504606846976 → 1152921504606846976 < u + (t - s) → ∃ e, wf u l = (0, e) ∧ e ≠ 0)
  | [], s, t, u, h => by
    have h1 : (s : Int) = t := congrArg Prod.fst h
    obtain rfl : s = t := by omega
    refine ⟨fun _ => ?_, fun h1 h2 => by omega⟩
    rw [Nat.sub_self, Nat.add_zero]; rfl
  | x :: r, s, t, u, h => by
    cases hp : x.pl
    · rw [wf_free hp] at h
      rw [wf_free hp]
      exact wf_shift r s t u h
    · by_cases he : Wo.wE x.q x.p x.c = 0
      · by_cases ho : 1152921504606846976 < s + (Wo.wV x.q x.p x.c).toNat
        · rw [wf_over hp he ho] at h
          exact absurd (show (12 : Int) = 0 from congrArg Prod.snd h) (by decide)
        · rw [wf_more hp he ho] at h
          have hle : s + (Wo.wV x.q x.p x.c).toNat ≤ t := by
            rcases wf_cases r (s + (Wo.wV x.q x.p x.c).toNat) with ⟨e, h1, h2⟩ | ⟨t', h1, h2, _⟩
            · rw [h1] at h; exact absurd (congrArg Prod.snd h) h2
            · rw [h1] at h
              have : (t' : Int) = t := congrArg Prod.fst h
              omega
          obtain ⟨g1, g2⟩ := wf_shift r _ t (u + (Wo.wV x.q x.p x.c).toNat) h
          by_cases ho2 : 1152921504606846976 < u + (Wo.wV x.q x.p x.c).toNat
          · rw [wf_over hp he ho2]
            exact ⟨fun h3 => by omega, fun _ _ => ⟨12, rfl, by decide⟩⟩
          · rw [wf_more hp he ho2]
            refine ⟨fun h3 => ?_, fun _ h3 => g2 (by omega) (by omega)⟩
            rw [g1 (by omega)]
            congr 2
            omega
      · rw [wf_bad hp he] at h
        exact absurd (congrArg Prod.snd h) he
/-- An error of an item is one from whatever beginning. -/
theorem wf_err : ∀ (l : List St) (s u : Nat), s ≤ u → (∃ e, wf s l = (0, e) ∧ e ≠ 0) → ∃ e, wf u l = (0, e) ∧ e ≠ 0
  | [], s, u, _, ⟨e, h, h1⟩ => absurd (congrArg Prod.snd h).symm h1
  | x :: r, s, u, hsu, h => by
    cases hp : x.pl
    · rw [wf_free hp] at h ⊢
      exact wf_err r s u hsu h
    · by_cases he : Wo.wE x.q x.p x.c = 0
      · by_cases ho2 : 1152921504606846976 < u + (Wo.wV x.q x.p x.c).toNat
        · rw [wf_over hp he ho2]; exact ⟨12, rfl, by decide⟩
        · rw [wf_more hp he ho2]
          rw [wf_more hp he (by omega)] at h
          exact wf_err r _ _ (by omega) h
      · rw [wf_bad hp he]; exact ⟨_, rfl, he⟩
theorem wf_app : ∀ (l m : List St) (s : Nat), (∀ e, wf s l = (0, e) → e ≠ 0 → wf s (l ++ m) = (0, e)) ∧ (∀ t : Nat, wf s l = ((t : Int), 0) → wf s (l ++ m) = wf t m)
  | [], m, s => ⟨fun e h h1 => absurd (congrArg Prod.snd h).symm h1, fun t h => by
      have h1 : (s : Int) = t := congrArg Prod.fst h
      obtain rfl : s = t := by omega
      rfl⟩
  | x :: r, m, s => by
    rw [List.cons_append]
    cases hp : x.pl
    · rw [wf_free hp, wf_free hp]
      exact wf_app r m s
    · by_cases he : Wo.wE x.q x.p x.c = 0
      · by_cases ho : 1152921504606846976 < s + (Wo.wV x.q x.p x.c).toNat
        · rw [wf_over hp he ho, wf_over hp he ho]
          exact ⟨fun e h _ => h, fun t h => absurd (show (12 : Int) = 0 from congrArg Prod.snd h) (by decide)⟩
        · rw [wf_more hp he ho, wf_more hp he ho]
          exact wf_app r m _
      · rw [wf_bad hp he, wf_bad hp he]
        exact ⟨fun e h _ => h, fun t h => absurd (congrArg Prod.snd h) he⟩
/-- Worth of two lists, and of both. -/
theorem wf_law (l m : List St) : (∀ u v : Nat, wf 0 l = ((u : Int), 0) → wf 0 m = ((v : Int), 0) → u + v ≤ 1152921504606846976 → wf 0 (l ++ m) = (((u + v : Nat) : Int), 0)) ∧ (¬ ((wf 0 l).2 = 0 ∧ (wf 0 m).2 = 0) → (wf 0 (l ++ m)).2 ≠ 0) := by
  refine ⟨fun u v hu hv h => ?_, fun h => ?_⟩
  · rw [(wf_app l m 0).2 u hu]
    have := (wf_shift m 0 v u hv).1 (by omega)
    rw [this]
    congr 2
  · rcases wf_cases l 0 with ⟨e, h1, h2⟩ | ⟨u, h1, _, _⟩
    · rw [(wf_app l m 0).1 e h1 h2]; exact h2
    · rw [(wf_app l m 0).2 u h1]
      rcases wf_cases m 0 with h3 | ⟨v, h3, _, _⟩
      · obtain ⟨e, h4, h5⟩ := wf_err m 0 u (by omega) h3
        rw [h4]; exact h5
      · exact absurd ⟨congrArg Prod.snd h1, congrArg Prod.snd h3⟩ h
end Vl
set_option maxHeartbeats 4000000 in
set_option maxRecDepth 100000 in
theorem vworthE_any (l : List Vl.St) (A : Option Addr) (cp : Nat) (w : World) (hr : StsAt w w.heap.size A l) (hl : l.length ≤ 1000000) (hf : ∀ x ∈ l, x.fits) :
    Calls Try.prog 11 #[.slice A l.length cp] w fun e w' => e = .returned (.tuple #[.int .i64 (Vl.wf 0 l).1, .int .i64 (Vl.wf 0 l).2]) ∧ Below w.heap.size w w' := by
  obtain ⟨n, hn⟩ : ∃ n, l.length = n := ⟨_, rfl⟩
  rw [hn] at hl ⊢
  have Hn := Lib.hid hn; clear hn
  have Hr := Lib.hid hr; clear hr
  have Hf := Lib.hid hf; clear hf
  obtain ⟨RV, RE, hR⟩ : ∃ a b, Vl.wf 0 l = (a, b) := ⟨_, _, rfl⟩
  rw [hR]
  have HR := Lib.hid hR; clear hR
  go_enter Try.func11, Try.ntmps11
  go_wp2
  go_loopw [5, 12] (fun S i wr => ∃ (k s : Nat), k ≤ n ∧ i = .int .i64 k ∧ S = .int .i64 s ∧ s ≤ 1152921504606846976 ∧ Hid (Vl.wf s (l.drop k) = (RV, RE)) ∧ Hid (Below w.heap.size w wr) ∧ Hid (wr.cell? ⟨w.heap.size, 0, none⟩ = some (.bool false)) ∧ Hid (wr.frozen? ⟨w.heap.size, 0, none⟩ = false) ∧ w.heap.size < wr.heap.size) (fun _ i _ => n - (intOf i).toNat)
  case atStart => exact ⟨0, 0, Nat.zero_le _, rfl, rfl, Nat.zero_le _, HR.out, (Below.refl _ _).alloc (Nat.le_refl _) _, by show _ = _; rw [Lib.cell_of_heap (heap_alloc_new w _)]; rfl, Lib.frozen_of_heap (heap_alloc_new w _) 0, by simp⟩
  case round =>
    obtain ⟨k, s, hk, rfl, rfl, hs60, HS, HB, HO, HFZ, hszo⟩ := hrel
    have hsz := HB.out.size
    by_cases hlt : k < n
    · obtain ⟨ad, x, rfl, hab, hxk, hc0⟩ := (Hr.out.below HB.out).at_ (show k < l.length by rw [Hn.out]; exact hlt)
      have hxf := Hf.out x (List.mem_of_getElem? hxk)
      have hS := HS.out
      rw [drop_cons hxk] at hS
      have HC := Lib.hid hc0; clear hc0
      obtain ⟨nm, cash, pl, u, least, p, c, close, q⟩ := x
      obtain ⟨⟨hu1, hu2⟩, ⟨hp1, hp2⟩, ⟨hc1, hc2⟩, hq1, hq2⟩ : Vl.St.fits _ := hxf
      simp only at hp1 hp2 hc1 hc2 hq1 hq2
      clear hu1 hu2
      cases pl
      · rw [Vl.wf_free rfl] at hS
        have HST := Lib.hid hS
        clear hS hxk HS
        go_wp2_with (first
            | (refine wpList_load_cells rfl 27 _ rfl (ad.add (k * 9)) rfl [.string nm, .bool cash, .bool false, .int .i64 u, .int .i64 least, .int .i64 p, .int .i64 c, .int .i64 close, .int .i64 q] _ HC.out Try.underlying27 rfl size_stock ?_)
            | (refine wpList_store_last rfl 27 _ _ rfl _ 27 _ _ rfl rfl (by exact size_stock) (by rfl) (by simp [Value.oneCell']) ?_)
            | (refine wpList_load_block rfl 27 _ rfl wr.heap.size rfl _ _ _ (heap_alloc_new wr _) Try.underlying27 rfl size_stock ?_))
        go_round
        case rel => exact ⟨k + 1, s, by omega, by go_num, rfl, hs60, HST.out, HB.out.alloc hsz _, ((((Below.refl wr.heap.size wr).alloc (Nat.le_refl _) _).cell hszo).trans HO.out), (World.frozen?_of_block (Below.heap_alloc wr _ _ hszo)).trans HFZ.out, by simp; omega⟩
        case measure => simp [intOf]; omega
      · obtain ⟨z, hz9⟩ : ∃ z : Nat, Wo.wV q p c = (z : Int) := ⟨(Wo.wV q p c).toNat, by have := Wo.wV_range q p c; omega⟩
        have hzr := Wo.wV_range q p c
        by_cases he : Wo.wE q p c = 0
        · by_cases hov : 1152921504606846976 < s + z
          · have hR2 := hS
            rw [Vl.wf_over (x := ⟨nm, cash, true, u, least, p, c, close, q⟩) rfl he (by show _ < s + (Wo.wV q p c).toNat; rw [hz9]; exact hov)] at hR2
            injection hR2 with r1 r2
            subst r1 r2
            have hz60 : z ≤ 1152921504606846976 := by omega
            have HZ9 := Lib.hid hz9; have HE := Lib.hid he
            clear hS hxk hz9 he HS HR
            go_wp2_with (first
                | (refine wpList_load_cells rfl 27 _ rfl (ad.add (k * 9)) rfl [.string nm, .bool cash, .bool true, .int .i64 u, .int .i64 least, .int .i64 p, .int .i64 c, .int .i64 close, .int .i64 q] _ HC.out Try.underlying27 rfl size_stock ?_)
                | (refine wpList_store_last rfl 27 _ _ rfl _ 27 _ _ rfl rfl (by exact size_stock) (by rfl) (by simp [Value.oneCell']) ?_)
                | (refine wpList_load_block rfl 27 _ rfl wr.heap.size rfl _ _ _ (heap_alloc_new wr _) Try.underlying27 rfl size_stock ?_))
            refine (worth_any q p c hq1 hq2 hp1 hp2 hc1 hc2 _).mono ?_
            rintro e w2 ⟨rfl, hb2⟩
            rw [HE.out, HZ9.out]
            obtain ⟨hkb, hbb⟩ := new_block hb2
            have hbw2 := HB.out.trans (hbb.mono hsz)
            have hsz2 := hbw2.size
            have hO2 := (hbb.cell hszo).trans HO.out
            have hF2 : w2.heap.size = w2.heap.size := rfl
            have hlt2 : w.heap.size < w2.heap.size := Nat.lt_of_lt_of_le hszo hbb.size
            have HB2 := Lib.hid hbw2
            have HFZ2 : Hid (w2.frozen? ⟨w.heap.size, 0, none⟩ = false) := (World.frozen?_of_block (hbb.block w.heap.size hszo)).trans HFZ.out
            have HO2 := Lib.hid hO2
            clear hb2 hkb hbw2 hO2 hbb HO
            have c3 : (w2.alloc (.cells #[.int .i64 s, .int .i64 z] 3)).cell? ⟨w.heap.size, 0, none⟩ = some (.bool false) := (((Below.refl w2.heap.size w2).alloc (Nat.le_refl _) _).cell hlt2).trans HO2.out
            have f3 : (w2.alloc (.cells #[.int .i64 s, .int .i64 z] 3)).frozen? ⟨w.heap.size, 0, none⟩ = false := (World.frozen?_of_block (Below.heap_alloc w2 _ _ hlt2)).trans HFZ2.out
            have C3 := Lib.hid c3; have F3 := Lib.hid f3
            clear c3 f3 hF2
            go_wp2_with fail
            refine (add_over w.heap.size [s, z] _ _ (w2.heap.size + 1) _ (reads_two w2 s z _) (by show (2 : Nat) ≤ _; decide) (by show 0 + s + z ≤ _; omega) (by show _ < 0 + s + z; omega) C3.out F3.out).mono ?_
            rintro e w3 ⟨rfl, rfl⟩
            have HB4 : Hid (Below w.heap.size w ((w2.alloc (.cells #[.int .i64 s, .int .i64 z] 3)).setCell ⟨w.heap.size, 0, none⟩ (.bool true))) := (HB2.out.alloc hsz2 _).setCell (p := ⟨w.heap.size, 0, none⟩) (Nat.le_refl _) _
            have C4 : ((w2.alloc (.cells #[.int .i64 s, .int .i64 z] 3)).setCell ⟨w.heap.size, 0, none⟩ (.bool true)).cell? ⟨w.heap.size, 0, none⟩ = some (.bool true) := World.cell?_setCell_same _ _ _ C3.out
            obtain ⟨W4, hW4⟩ : ∃ W, (w2.alloc (.cells #[.int .i64 s, .int .i64 z] 3)).setCell ⟨w.heap.size, 0, none⟩ (.bool true) = W := ⟨_, rfl⟩
            rw [hW4] at HB4 C4 ⊢
            clear hW4
            go_wp2
            go_ret2
            exact ⟨rfl, HB4.out⟩
          · have hS2 := hS
            rw [Vl.wf_more (x := ⟨nm, cash, true, u, least, p, c, close, q⟩) rfl he (by show ¬ _ < s + (Wo.wV q p c).toNat; rw [hz9]; exact hov)] at hS2
            have hz0 : (Wo.wV q p c).toNat = z := by rw [hz9]; rfl
            simp only at hS2
            rw [hz0] at hS2
            have hsz60 : s + z ≤ 1152921504606846976 := by omega
            have HST := Lib.hid hS2
            have hxe1 : Wo.wE q p c = 0 := he
            clear hS hS2 hxk hz0 he HS HR
            go_wp2_with (first
                | (refine wpList_load_cells rfl 27 _ rfl (ad.add (k * 9)) rfl [.string nm, .bool cash, .bool true, .int .i64 u, .int .i64 least, .int .i64 p, .int .i64 c, .int .i64 close, .int .i64 q] _ HC.out Try.underlying27 rfl size_stock ?_)
                | (refine wpList_store_last rfl 27 _ _ rfl _ 27 _ _ rfl rfl (by exact size_stock) (by rfl) (by simp [Value.oneCell']) ?_)
                | (refine wpList_load_block rfl 27 _ rfl wr.heap.size rfl _ _ _ (heap_alloc_new wr _) Try.underlying27 rfl size_stock ?_))
            refine (worth_any q p c hq1 hq2 hp1 hp2 hc1 hc2 _).mono ?_
            rintro e w2 ⟨rfl, hb2⟩
            rw [hxe1, hz9]
            obtain ⟨hkb, hbb⟩ := new_block hb2
            have hbw2 := HB.out.trans (hbb.mono hsz)
            have hsz2 := hbw2.size
            have hO2 := (hbb.cell hszo).trans HO.out
            have HB2 := Lib.hid hbw2
            have HO2 := Lib.hid hO2
            have HFZ2 : Hid (w2.frozen? ⟨w.heap.size, 0, none⟩ = false) := (World.frozen?_of_block (hbb.block w.heap.size hszo)).trans HFZ.out
            clear hb2 hkb hbw2 hO2 hxe1 hz9
            go_wp2_with fail
            refine (add_any w.heap.size [s, z] _ _ (w2.heap.size + 1) _ (reads_two w2 s z _) (by show (2 : Nat) ≤ _; decide) ?small).mono ?_
            case small => show 0 + s + z ≤ _; omega
            rintro e w3 ⟨rfl, rfl⟩
            have hlt2 : w.heap.size < w2.heap.size := Nat.lt_of_lt_of_le hszo hbb.size
            have HC0 : Hid ((w2.alloc (.cells #[.int .i64 s, .int .i64 z] 3)).cell? ⟨w.heap.size, 0, none⟩ = some (.bool false)) := (((Below.refl w2.heap.size w2).alloc (Nat.le_refl _) _).cell hlt2).trans HO2.out
            have c0 := HC0.out
            go_wp2
            go_round
            case rel => exact ⟨k + 1, s + z, by omega, by go_num, by show Value.int .i64 ((0 + s + z : Nat) : Int) = _; rw [show 0 + s + z = s + z from by omega], hsz60, HST.out, HB2.out.alloc hsz2 _, HC0, (World.frozen?_of_block (Below.heap_alloc w2 _ _ hlt2)).trans HFZ2.out, by simp; omega⟩
            case measure => simp [intOf]; omega
        · have hR2 := hS
          rw [Vl.wf_bad (x := ⟨nm, cash, true, u, least, p, c, close, q⟩) rfl he] at hR2
          injection hR2 with r1 r2
          simp only at r2
          subst r1
          obtain ⟨ev, hev⟩ : ∃ x, Wo.wE q p c = x := ⟨_, rfl⟩
          rw [hev] at r2 he
          subst r2
          have HEV := Lib.hid hev
          clear hS hxk HS HR hev
          go_wp2_with (first
              | (refine wpList_load_cells rfl 27 _ rfl (ad.add (k * 9)) rfl [.string nm, .bool cash, .bool true, .int .i64 u, .int .i64 least, .int .i64 p, .int .i64 c, .int .i64 close, .int .i64 q] _ HC.out Try.underlying27 rfl size_stock ?_)
              | (refine wpList_store_last rfl 27 _ _ rfl _ 27 _ _ rfl rfl (by exact size_stock) (by rfl) (by simp [Value.oneCell']) ?_)
              | (refine wpList_load_block rfl 27 _ rfl wr.heap.size rfl _ _ _ (heap_alloc_new wr _) Try.underlying27 rfl size_stock ?_))
          refine (worth_any q p c hq1 hq2 hp1 hp2 hc1 hc2 _).mono ?_
          rintro e w2 ⟨rfl, hb2⟩
          rw [HEV.out]
          obtain ⟨hkb, hbb⟩ := new_block hb2
          have HB2 := Lib.hid (HB.out.trans (hbb.mono hsz))
          clear hb2 hkb hbb
          go_wp2
          go_ret2
          exact ⟨rfl, HB2.out⟩
    · have hfin := HS.out
      rw [List.drop_eq_nil_of_le (by rw [Hn.out]; omega)] at hfin
      injection hfin with r1 r2
      subst r1 r2
      go_wp2
      go_ret2
      exact ⟨rfl, HB.out⟩
end Go.Proofs.Ytiekolbkmgdfoaa
