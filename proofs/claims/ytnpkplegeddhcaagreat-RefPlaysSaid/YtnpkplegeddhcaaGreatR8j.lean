/-
 The document's data: a limit, a price set, as contracts.
 Conditions: the caller's memory stays.
-/
import Derived.Test.YtnpkplegeddhcaaGreatR8f
import Derived.Test.YtnpkplegeddhcaaGreatRefDel2
import Derived.Test.YtnpkplegeddhcaaGreatKb
namespace Go.Proofs.YtnpkplegeddhcaaGreat
open Go.RowKit Go.Maps Go.Shelf
attribute [local go_sem ↓] Go.wp_at_zero Go.wp_at_succ
set_option maxRecDepth 100000

/-- The document's accounts of a party. -/
def accs8 (st : R8) (p : ByteArray) : List Account := st.a.filter (fun y => !delB p y)
theorem delB_empty {p : ByteArray} (h : p.toList.isEmpty = true) (y : Account) : delB p y = false := by unfold delB; rw [h]; rfl
theorem delB_own {p : ByteArray} (h : p.toList.isEmpty = false) (y : Account) : delB p y = !(y.party.toList == p.toList) := by unfold delB; rw [h]; rfl
set_option maxHeartbeats 8000000 in
theorem accs8_all (x : Nat) (st : R8) (p : ByteArray) (w : World) (h : R8At x st w) (hlen : st.a.length ≤ 1000) (hp : p.toList.isEmpty = true) :
  Calls Tryz.prog 45 #[.pointer (some ⟨x, 0, none⟩), .string p] w fun e w' => ∃ u, e = .returned u ∧ w'.ownsRow w.heap.size 88 2 u (accs8 st p).length (cellsOf (accs8 st p)) ∧ Below w.heap.size w w' := by
 obtain ⟨i0, z0, hi, hz0, hz1, hz2, hz3⟩ := info_all infoAllC
 obtain ⟨n, hn⟩ : ∃ n, st.a.length = n := ⟨_, rfl⟩
 rw [hn] at hlen
 have H := Lib.hid h; have HN := Lib.hid hn; have HP := Lib.hid hp
 clear h hn
 obtain ⟨R, hR⟩ : ∃ R, accs8 st p = R := ⟨_, rfl⟩
 have HRR := Lib.hid hR
 rw [hR]
 clear hR
 go_enter Tryz.func45, Tryz.ntmps45
 go_wp2
 go_loopw [5, 6] (fun u i wr => ∃ (k m : Nat), k ≤ n ∧ i = .int .i64 k ∧ m ≤ k ∧ Hid (((st.a.take k).filter (fun y => !delB p y)).length = m) ∧ Hid (wr.ownsRow w.heap.size 88 2 u m (cellsOf ((st.a.take k).filter (fun y => !delB p y)))) ∧ Hid (Below w.heap.size w wr)) (fun _ i _ => n - (intOf i).toNat)
 case atStart => exact ⟨0, 0, Nat.zero_le _, rfl, Nat.le_refl _, rfl, World.ownsRow_nil _ _ _ _, Below.refl _ _⟩
 case round =>
  obtain ⟨k, m, hk, rfl, hmk, HM, HO, HB⟩ := hrel
  have hb := H.out.below HB.out
  obtain ⟨A, c, hcell, hcap, hrow, _⟩ := hb.atA
  rw [HN.out] at hcell hcap
  by_cases hlt : k < n
  ·obtain ⟨ad, y, rfl, hab, hyk, hym, hc⟩ := hrow.at_ (show k < st.a.length by rw [HN.out]; exact hlt)
   have e0 : wr.cell? (ad.add (k * 2)) = some (.string y.name) := by have h := hc 0 _ rfl; rw [show (ad.add (k * 2)).add 0 = ad.add (k * 2) from by rw [add_of_add]; rfl] at h; exact h
   have e1 : wr.cell? ⟨(ad.add (k * 2)).block, (ad.add (k * 2)).off + 1, none⟩ = some (.string y.party) := hc 1 _ rfl
   have hst := filter_step (del := delB p) hyk
   have hown := HO.out
   have hsz := HB.out.size
   have HST := Lib.hid hst
   have b1 : (0 : Int) ≤ (k : Int) := by omega
   have b2 : (k : Int) < (n : Int) := by omega
   clear hb hrow hc hyk hym hst
   have hd : delB p y = false := delB_empty hp y
   have hone : True := trivial
   cases hone
   ·have HD := Lib.hid hd
    clear hd
    go_wp2_with (at_builtin; refine wpList_append_any _ rfl _ _ 36 rfl w.heap.size 88 i0 z0 2 32 Tryz.underlying36 hi hz0 hz1 hz2 hz3 (by decide) _ _ _ rfl (hown.alloc _) (wr.heap.size + 1) (some ⟨wr.heap.size, 0, none⟩) 1 1 [.string y.name, .string y.party] rfl ?c1 ?c2 ?c3 ?c4 ?c5 ?_)
    case c1 => exact reads_newN wr [.string y.name, .string y.party] _ _ rfl rfl
    case c2 => simp [Value.oneCell']
    case c3 => unfold maxLen; omega
    case c4 => omega
    case c5 => simp; omega
    intro v3 w3 hown3 hgrow3 _
    have HO3 : Hid (w3.ownsRow w.heap.size 88 2 v3 (m + 1) (cellsOf ((st.a.take (k + 1)).filter (fun y => !delB p y)))) := by
     show World.ownsRow _ _ _ _ _ _ _
     rw [HST.out, HD.out, cellsOf_app]
     exact hown3
    have HB3 := Lib.hid ((HB.out.alloc hsz (.cells #[.string y.name, .string y.party] 88)).grown hgrow3 (by simp; omega) (fun j hj => (hown.lt j hj).1))
    have HM3 : Hid (((st.a.take (k + 1)).filter (fun y => !delB p y)).length = m + 1) := by show _ = _; rw [HST.out, HD.out, List.length_append, HM.out]; rfl
    clear hown3 hgrow3 hown
    go_wp2
    go_roundw
    case rel => exact ⟨k + 1, m + 1, hlt, by go_num, by omega, HM3.out, HO3.out, HB3.out⟩
    case measure => simp [intOf]; omega
  ·obtain rfl : k = n := by omega
   have h9 := HO.out
   have e9 : (st.a.take k).filter (fun y => !delB p y) = R := by rw [List.take_of_length_le (by rw [HN.out]; exact Nat.le_refl _)]; exact HRR.out
   have hm9 := HM.out
   rw [e9] at h9 hm9
   rw [← hm9] at h9
   have HF := Lib.hid h9
   clear hb hrow h9 e9 hm9
   go_wp2
   go_ret
   exact ⟨_, rfl, HF.out, HB.out⟩
set_option maxHeartbeats 8000000 in
theorem accs8_own (x : Nat) (st : R8) (p : ByteArray) (w : World) (h : R8At x st w) (hlen : st.a.length ≤ 1000) (hp : p.toList.isEmpty = false) :
  Calls Tryz.prog 45 #[.pointer (some ⟨x, 0, none⟩), .string p] w fun e w' => ∃ u, e = .returned u ∧ w'.ownsRow w.heap.size 88 2 u (accs8 st p).length (cellsOf (accs8 st p)) ∧ Below w.heap.size w w' := by
 obtain ⟨i0, z0, hi, hz0, hz1, hz2, hz3⟩ := info_all infoAllC
 obtain ⟨n, hn⟩ : ∃ n, st.a.length = n := ⟨_, rfl⟩
 rw [hn] at hlen
 have H := Lib.hid h; have HN := Lib.hid hn; have HP := Lib.hid hp
 clear h hn
 obtain ⟨R, hR⟩ : ∃ R, accs8 st p = R := ⟨_, rfl⟩
 have HRR := Lib.hid hR
 rw [hR]
 clear hR
 go_enter Tryz.func45, Tryz.ntmps45
 go_wp2
 go_loopw [5, 6] (fun u i wr => ∃ (k m : Nat), k ≤ n ∧ i = .int .i64 k ∧ m ≤ k ∧ Hid (((st.a.take k).filter (fun y => !delB p y)).length = m) ∧ Hid (wr.ownsRow w.heap.size 88 2 u m (cellsOf ((st.a.take k).filter (fun y => !delB p y)))) ∧ Hid (Below w.heap.size w wr)) (fun _ i _ => n - (intOf i).toNat)
 case atStart => exact ⟨0, 0, Nat.zero_le _, rfl, Nat.le_refl _, rfl, World.ownsRow_nil _ _ _ _, Below.refl _ _⟩
 case round =>
  obtain ⟨k, m, hk, rfl, hmk, HM, HO, HB⟩ := hrel
  have hb := H.out.below HB.out
  obtain ⟨A, c, hcell, hcap, hrow, _⟩ := hb.atA
  rw [HN.out] at hcell hcap
  by_cases hlt : k < n
  ·obtain ⟨ad, y, rfl, hab, hyk, hym, hc⟩ := hrow.at_ (show k < st.a.length by rw [HN.out]; exact hlt)
   have e0 : wr.cell? (ad.add (k * 2)) = some (.string y.name) := by have h := hc 0 _ rfl; rw [show (ad.add (k * 2)).add 0 = ad.add (k * 2) from by rw [add_of_add]; rfl] at h; exact h
   have e1 : wr.cell? ⟨(ad.add (k * 2)).block, (ad.add (k * 2)).off + 1, none⟩ = some (.string y.party) := hc 1 _ rfl
   have hst := filter_step (del := delB p) hyk
   have hown := HO.out
   have hsz := HB.out.size
   have HST := Lib.hid hst
   have b1 : (0 : Int) ≤ (k : Int) := by omega
   have b2 : (k : Int) < (n : Int) := by omega
   clear hb hrow hc hyk hym hst
   cases hd : delB p y
   ·have HD := Lib.hid hd
    have hq : (y.party.toList == p.toList) = true := by
     rw [delB_own hp] at hd
     simpa using hd
    clear hd
    go_wp2_with (at_builtin; refine wpList_append_any _ rfl _ _ 36 rfl w.heap.size 88 i0 z0 2 32 Tryz.underlying36 hi hz0 hz1 hz2 hz3 (by decide) _ _ _ rfl (hown.alloc _) (wr.heap.size + 1) (some ⟨wr.heap.size, 0, none⟩) 1 1 [.string y.name, .string y.party] rfl ?c1 ?c2 ?c3 ?c4 ?c5 ?_)
    case c1 => exact reads_newN wr [.string y.name, .string y.party] _ _ rfl rfl
    case c2 => simp [Value.oneCell']
    case c3 => unfold maxLen; omega
    case c4 => omega
    case c5 => simp; omega
    intro v3 w3 hown3 hgrow3 _
    have HO3 : Hid (w3.ownsRow w.heap.size 88 2 v3 (m + 1) (cellsOf ((st.a.take (k + 1)).filter (fun y => !delB p y)))) := by
     show World.ownsRow _ _ _ _ _ _ _
     rw [HST.out, HD.out, cellsOf_app]
     exact hown3
    have HB3 := Lib.hid ((HB.out.alloc hsz (.cells #[.string y.name, .string y.party] 88)).grown hgrow3 (by simp; omega) (fun j hj => (hown.lt j hj).1))
    have HM3 : Hid (((st.a.take (k + 1)).filter (fun y => !delB p y)).length = m + 1) := by show _ = _; rw [HST.out, HD.out, List.length_append, HM.out]; rfl
    clear hown3 hgrow3 hown
    go_wp2
    go_roundw
    case rel => exact ⟨k + 1, m + 1, hlt, by go_num, by omega, HM3.out, HO3.out, HB3.out⟩
    case measure => simp [intOf]; omega
   ·have hq : (y.party.toList == p.toList) = false := by
     rw [delB_own hp] at hd
     simpa using hd
    have heq : (st.a.take (k + 1)).filter (fun y => !delB p y) = (st.a.take k).filter (fun y => !delB p y) := by rw [HST.out, hd]; simp
    rw [← heq] at hown
    have HO3 := Lib.hid hown
    have HM3 : Hid (((st.a.take (k + 1)).filter (fun y => !delB p y)).length = m) := by show _ = _; rw [heq]; exact HM.out
    clear hown hd heq
    go_wp2
    go_roundw
    case rel => exact ⟨k + 1, m, hlt, by go_num, by omega, HM3.out, HO3.out, HB.out⟩
    case measure => simp [intOf]; omega
  ·obtain rfl : k = n := by omega
   have h9 := HO.out
   have e9 : (st.a.take k).filter (fun y => !delB p y) = R := by rw [List.take_of_length_le (by rw [HN.out]; exact Nat.le_refl _)]; exact HRR.out
   have hm9 := HM.out
   rw [e9] at h9 hm9
   rw [← hm9] at h9
   have HF := Lib.hid h9
   clear hb hrow h9 e9 hm9
   go_wp2
   go_ret
   exact ⟨_, rfl, HF.out, HB.out⟩
theorem accs8_any (x : Nat) (st : R8) (p : ByteArray) (w : World) (h : R8At x st w) (hlen : st.a.length ≤ 1000) :
  Calls Tryz.prog 45 #[.pointer (some ⟨x, 0, none⟩), .string p] w fun e w' => ∃ u, e = .returned u ∧ w'.ownsRow w.heap.size 88 2 u (accs8 st p).length (cellsOf (accs8 st p)) ∧ Below w.heap.size w w' := by
 cases hp : p.toList.isEmpty
 ·exact accs8_own x st p w h hlen hp
 ·exact accs8_all x st p w h hlen hp
end Go.Proofs.YtnpkplegeddhcaaGreat
namespace Go.Proofs.YtnpkplegeddhcaaGreat
open Go.RowKit Go.Maps Go.Shelf
attribute [local go_sem ↓] Go.wp_at_zero Go.wp_at_succ
set_option maxRecDepth 100000

section
variable {α : Type} [Kd α]
/-- The first of a name, changed. -/
def updK (s : ByteArray) (f : α → α) : List α → List α
 | [] => []
 | y :: P => if Kd.key y = s then f y :: P else y :: updK s f P
theorem updK_at {s : ByteArray} {f : α → α} : ∀ {P : List α} {k : Nat} {y : α}, (∀ i z, i < k → P[i]? = some z → Kd.key z ≠ s) → P[k]? = some y → Kd.key y = s → updK s f P = P.set k (f y)
 | [], _, _, _, hk, _ => by simp at hk
 | y0 :: P, 0, y, _, hk, hy => by
  obtain rfl : y0 = y := by simpa using hk
  simp only [updK]
  rw [if_pos hy, List.set_cons_zero]
 | y0 :: P, k + 1, y, h, hk, hy => by
  have h0 := h 0 y0 (by omega) rfl
  simp only [updK]
  rw [if_neg h0, List.set_cons_succ, updK_at (k := k) (fun i z hi hz => h (i + 1) z (by omega) (by simpa using hz)) (by simpa using hk) hy]
theorem updK_len (s : ByteArray) (f : α → α) : ∀ P : List α, (updK s f P).length = P.length
 | [] => rfl
 | y :: P => by
  simp only [updK]
  split
  ·rfl
  ·rw [List.length_cons, updK_len s f P, List.length_cons]
/-- One cell of a record changed in a row of records. -/
theorem cells_upd {N j : Nat} {v : Value} : ∀ {P : List α} {k : Nat} {y y' : α}, (∀ x ∈ P, (Kd.val x).cells.size = N) → P[k]? = some y → (Kd.val y').cells.toList = (Kd.val y).cells.toList.set j v → j < N → (cellsOf P).set (k * N + j) v = cellsOf (P.set k y')
 | [], _, _, _, _, hk, _, _ => by simp at hk
 | y0 :: P, 0, y, y', hN, hk, hy, hj => by
  obtain rfl : y0 = y := by simpa using hk
  have hl : (Kd.val y0).cells.toList.length = N := by rw [Array.length_toList]; exact hN y0 (by simp)
  have e : cellsOf (y0 :: P) = (Kd.val y0).cells.toList ++ cellsOf P := rfl
  have e' : cellsOf (y' :: P) = (Kd.val y').cells.toList ++ cellsOf P := rfl
  rw [List.set_cons_zero, e, e', hy, Nat.zero_mul, Nat.zero_add, List.set_append_left _ _ (by rw [hl]; exact hj)]
 | y0 :: P, k + 1, y, y', hN, hk, hy, hj => by
  have hl : (Kd.val y0).cells.toList.length = N := by rw [Array.length_toList]; exact hN y0 (by simp)
  have e : cellsOf (y0 :: P) = (Kd.val y0).cells.toList ++ cellsOf P := rfl
  have e' : cellsOf (y0 :: P.set k y') = (Kd.val y0).cells.toList ++ cellsOf (P.set k y') := rfl
  rw [List.set_cons_succ, e, e', List.set_append_right _ _ (by rw [hl, Nat.succ_mul]; omega), hl, show (k + 1) * N + j - N = k * N + j by rw [Nat.succ_mul]; omega,
   cells_upd (fun x hx => hN x (by simp [hx])) (by simpa using hk) hy hj]
end
def errLi8 (st : R8) (s : ByteArray) (n : Int) : Int := match findK st.p s with
 | none => 7
 | some _ => if inB n 0 1152921504606846976 = false then 1 else 0
def setLi8 (st : R8) (s : ByteArray) (n : Int) : R8 := if errLi8 st s n = 0 then ⟨st.l, updK s (fun y => { y with limit := n }) st.p, st.a, st.s⟩ else st
def errPr8 (st : R8) (s : ByteArray) (n : Int) : Int := match findK st.s s with
 | none => 7
 | some y => if inB n 0 1099511627776 = false then 1 else if y.cash = true then 1 else 0
def setPr8 (st : R8) (s : ByteArray) (n : Int) : R8 := if errPr8 st s n = 0 then ⟨st.l, st.p, st.a, updK s (fun y => { y with price := n }) st.s⟩ else st
theorem errLi8_none {st : R8} {s : ByteArray} {n : Int} (h : findK st.p s = none) : errLi8 st s n = 7 ∧ setLi8 st s n = st := by unfold setLi8 errLi8; rw [h]; exact ⟨by simp, if_neg (by simp)⟩
theorem errLi8_in {st : R8} {s : ByteArray} {n : Int} {y : Party} (h : findK st.p s = some y) (h1 : inB n 0 1152921504606846976 = false) : errLi8 st s n = 1 ∧ setLi8 st s n = st := by unfold setLi8 errLi8; rw [h]; simp only [h1]; exact ⟨by simp, if_neg (by simp)⟩
theorem errLi8_ok {st : R8} {s : ByteArray} {n : Int} {y : Party} (h : findK st.p s = some y) (h1 : inB n 0 1152921504606846976 = true) : errLi8 st s n = 0 ∧ setLi8 st s n = ⟨st.l, updK s (fun y => { y with limit := n }) st.p, st.a, st.s⟩ := by unfold setLi8 errLi8; rw [h]; simp only [h1]; exact ⟨rfl, if_pos rfl⟩
theorem errPr8_none {st : R8} {s : ByteArray} {n : Int} (h : findK st.s s = none) : errPr8 st s n = 7 ∧ setPr8 st s n = st := by unfold setPr8 errPr8; rw [h]; exact ⟨by simp, if_neg (by simp)⟩
theorem errPr8_in {st : R8} {s : ByteArray} {n : Int} {y : Asset} (h : findK st.s s = some y) (h1 : inB n 0 1099511627776 = false) : errPr8 st s n = 1 ∧ setPr8 st s n = st := by unfold setPr8 errPr8; rw [h]; simp only [h1]; exact ⟨by simp, if_neg (by simp)⟩
theorem errPr8_cash {st : R8} {s : ByteArray} {n : Int} {y : Asset} (h : findK st.s s = some y) (h1 : inB n 0 1099511627776 = true) (h2 : y.cash = true) : errPr8 st s n = 1 ∧ setPr8 st s n = st := by unfold setPr8 errPr8; rw [h]; simp only [h1, h2]; exact ⟨by simp, if_neg (by simp)⟩
theorem errPr8_ok {st : R8} {s : ByteArray} {n : Int} {y : Asset} (h : findK st.s s = some y) (h1 : inB n 0 1099511627776 = true) (h2 : y.cash = false) : errPr8 st s n = 0 ∧ setPr8 st s n = ⟨st.l, st.p, st.a, updK s (fun y => { y with price := n }) st.s⟩ := by unfold setPr8 errPr8; rw [h]; simp only [h1, h2]; exact ⟨rfl, if_pos rfl⟩
set_option maxHeartbeats 8000000 in
theorem setLi8_any (x : Nat) (st : R8) (s : ByteArray) (n : Int) (w : World) (h : R8At x st w) (hlen : st.p.length ≤ 100000) :
  Calls Tryz.prog 25 #[.pointer (some ⟨x, 0, none⟩), .string s, .int .i64 n] w fun e w' => e = .returned (.int .i64 (errLi8 st s n)) ∧ R8At x (setLi8 st s n) w' ∧ Mv [x] [x] w w' := by
 obtain ⟨i0, z0, hi, hz0, hz1, hz2, hz3⟩ := info_all infoP8
 have hxl := h.lt
 obtain ⟨A, c, hcell, hcap, hrow, hoff⟩ := h.atP
 have f1 := h.frozen 1
 have H := Lib.hid h
 obtain ⟨P, hP⟩ : ∃ P, st.p = P := ⟨_, rfl⟩
 have HP := Lib.hid hP
 rw [hP] at hcell hcap hrow hlen hoff
 obtain ⟨N, hn⟩ : ∃ N, P.length = N := ⟨_, rfl⟩
 rw [hn] at hcell hcap hlen hoff
 have HR := Lib.hid hrow; have HN := Lib.hid hn; have HXL := Lib.hid hxl
 clear hrow hn hP h hoff hxl
 have hwi := within_any n 0 1152921504606846976 w
 obtain ⟨E, hE⟩ : ∃ E, errLi8 st s n = E := ⟨_, rfl⟩
 obtain ⟨T, hT⟩ : ∃ T, setLi8 st s n = T := ⟨_, rfl⟩
 rw [hE, hT]
 have HE := Lib.hid hE; have HT := Lib.hid hT
 clear hE hT
 go_enter Tryz.func25, Tryz.ntmps25
 go_wp2
 go_loopw [7] (fun nn wr => ∃ k : Nat, k ≤ N ∧ nn = .int .i64 k ∧ Hid (∀ j z, j < k → P[j]? = some z → Kd.key z ≠ s) ∧ wr = w) (fun nn _ => N - (intOf nn).toNat)
 case atStart => exact ⟨0, Nat.zero_le _, rfl, fun j z h => absurd h (by omega), rfl⟩
 case round =>
  obtain ⟨k, hk, rfl, HI, rfl⟩ := hrel
  have b1 : (0 : Int) ≤ (k : Int) := by omega
  by_cases hlt : k < N
  ·obtain ⟨ad, y, rfl, hab, hyk, hym, hc⟩ := HR.out.at_ (show k < P.length by rw [HN.out]; exact hlt)
   have e0 : wr.cell? (ad.add (k * 2)) = some (.string y.name) := by have h := hc 0 _ rfl; rw [show (ad.add (k * 2)).add 0 = ad.add (k * 2) from by rw [add_of_add]; rfl] at h; exact h
   have HYK := Lib.hid hyk
   have b2 : (k : Int) < (N : Int) := by omega
   clear hc hyk hym
   by_cases he : y.name = s
   ·have hq : (y.name.toList == s.toList) = true := by rw [he]; simp
    have HF : Hid (findK st.p s = some y) := by show _ = _; rw [HP.out]; exact findK_at HI.out HYK.out he
    have HKEY := Lib.hid he
    clear he
    cases hin : inB n 0 1152921504606846976
    ·have hres := errLi8_in (n := n) HF.out hin
     rw [HE.out, HT.out] at hres
     obtain ⟨hres1, hres2⟩ := hres
     rw [hin] at hwi
     have HR1 := Lib.hid hres1; have HR2 := Lib.hid hres2
     clear hres1 hres2 hin
     go_wp2_with fail
     refine hwi.mono ?_
     rintro e w9 ⟨rfl, rfl⟩
     go_wp2
     go_ret
     rw [HR1.out, HR2.out]
     exact ⟨rfl, H.out, Mv.refl _ _⟩
    ·rw [hin] at hwi
     have hres := errLi8_ok (n := n) HF.out hin
     rw [HE.out, HT.out] at hres
     obtain ⟨hres1, hres2⟩ := hres
     have HR1 := Lib.hid hres1; have HR2 := Lib.hid hres2
     clear hres1 hres2 hin
     go_wp2_with fail
     refine hwi.mono ?_
     rintro e w9 ⟨rfl, rfl⟩
     go_wp2_with (at_builtin; go_loud (refine wpList_append_any _ rfl _ _ 35 rfl wr.heap.size 84 i0 z0 2 24 Tryz.underlying35 hi hz0 hz1 hz2 hz3 (by decide) _ _ _ rfl (World.ownsRow_nil wr wr.heap.size _ 2) wr.heap.size (some ad) N c (cellsOf P) rfl ?d1 ?d2 ?d3 ?d4 ?d5 ?_))
     case d1 => have h := HR.out.reads (fun _ _ => rfl); rw [HN.out] at h; exact h
     case d2 => exact cellsOf_one P oneP8
     case d3 => unfold maxLen; omega
     case d4 => omega
     case d5 => exact Nat.le_refl _
     intro v4 w4 hown4 hgrow4 _
     have hb4 : Below wr.heap.size wr w4 := ⟨hgrow4.os, hgrow4.tape, hgrow4.output, hgrow4.size, fun k hk => hgrow4.block k hk (by simp [Value.ownBlock])⟩
     have hown4' : w4.ownsRow wr.heap.size 84 2 v4 N (cellsOf P) := by simpa using hown4
     clear hown4 hgrow4
     obtain ⟨g4, c4, rfl, hc4, hg4⟩ := hown4'.form (by omega)
     have hge : wr.heap.size ≤ g4 := (hown4'.lt g4 rfl).1
     have hxg : x ≠ g4 := by have := HXL.out; omega
     have e4 : w4.cell? ⟨x, 1, none⟩ = some (.slice (some ad) N c) := (hb4.cell (p := ⟨x, 1, none⟩) HXL.out).trans hcell
     have f4 : w4.frozen? ⟨x, 1, none⟩ = false := by
      obtain ⟨vl, vp, va, vs, k1, _⟩ := H.out
      exact Lib.frozen_of_heap ((hb4.block x HXL.out).trans k1) 1
     have hown5 : (w4.setCell ⟨x, 1, none⟩ (.slice (some ⟨g4, 0, none⟩) N c4)).ownsRow wr.heap.size 84 2 (.slice (some ⟨g4, 0, none⟩) N c4) N (cellsOf P) :=
      Kb.own_keep' hown4' (fun k hk => Below.heap_setCell _ _ _ _ (fun e => hxg (by injection hk with hk; exact (e.symm.trans hk.symm))))
     have hcc : (cellsOf P)[k * 2 + 1]? = some (.int .i64 y.limit) := cells_at (N := 2) (fun _ _ => rfl) HYK.out rfl
     have e5 : (w4.setCell ⟨x, 1, none⟩ (.slice (some ⟨g4, 0, none⟩) N c4)).cell? ⟨g4, k * 2 + 1, none⟩ = some (.int .i64 y.limit) := by
      have h := hown5.cells (g := g4) rfl _ _ hcc
      rw [Addr.add_lit, Nat.zero_add] at h
      exact h
     have f5 : (w4.setCell ⟨x, 1, none⟩ (.slice (some ⟨g4, 0, none⟩) N c4)).frozen? ⟨g4, k * 2 + 1, none⟩ = false := hown5.frozenAt (k * 2 + 1)
     have HFIN : Hid (∀ W, W = (w4.setCell ⟨x, 1, none⟩ (.slice (some ⟨g4, 0, none⟩) N c4)).setCell ⟨g4, k * 2 + 1, none⟩ (.int .i64 n) → R8At x T W ∧ Mv [x] [x] wr W) := by
      intro W hW
      have hz : w4.heap.size = W.heap.size := by rw [hW]; simp [World.setCell]
      have hkeep : ∀ b, b ≠ g4 → b ≠ x → W.heap[b]? = w4.heap[b]? := fun b h1 h2 => by rw [hW]; exact (Below.heap_setCell _ _ _ _ h1).trans (Below.heap_setCell _ _ _ _ h2)
      have hm : Mv [x] [x] wr W := ⟨by rw [hW]; exact hb4.os, by rw [hW]; exact hb4.tape, by rw [hW]; exact hb4.output, by rw [← hz]; exact hb4.size, fun b hb hn => (hkeep b (by omega) (by simpa using hn)).trans (hb4.block b hb), fun _ h => .inl h⟩
      obtain ⟨vl, vp, va, vs, k1, k2, k3, k4, k5⟩ := H.out
      have hst := (hown5.stored (k * 2 + 1) (.int .i64 n)).1
      rw [cells_upd (N := 2) (y' := { y with limit := n }) (fun _ _ => rfl) HYK.out rfl (by decide), ← hW] at hst
      have hsl : SlAt Party x 2 (.slice (some ⟨g4, 0, none⟩) N c4) (P.set k { y with limit := n }) W := slat_of_own hst (by rw [List.length_set]; exact HN.out) (fun _ _ => rfl) HXL.out
      have hbx : W.heap[x]? = some (.cells #[vl, .slice (some ⟨g4, 0, none⟩) N c4, va, vs] 39 (0, 0)) := by
       rw [hW]
       exact (Below.heap_setCell _ _ _ _ hxg).trans (Blk.set_ (show Blk w4 x 39 _ from (hb4.block x HXL.out).trans k1) 1 _)
      refine ⟨?_, hm⟩
      rw [HR2.out, HP.out, updK_at HI.out HYK.out HKEY.out]
      exact ⟨_, _, _, _, hbx, k2.mvx hm, hsl, k4.mvx hm, k5.mvx hm⟩
     clear hown4' hown5 hb4 hcc
     go_wp2
     go_ret
     rw [HR1.out]
     exact ⟨rfl, HFIN.out _ rfl⟩
   ·have hq : (y.name.toList == s.toList) = false := by
     rw [beq_eq_false_iff_ne]
     exact fun e => he (toList_inj e)
    have HE2 := Lib.hid he
    clear he
    go_wp2
    go_roundw
    case rel =>
     refine ⟨k + 1, hlt, by go_num, fun j z hj hz => ?_, trivial⟩
     rcases Nat.lt_or_ge j k with h1 | h1
     ·exact HI.out j z h1 hz
     ·obtain rfl : j = k := by omega
      rw [HYK.out] at hz
      injection hz with hz
      subst hz
      exact HE2.out
    case measure => simp [intOf]; omega
  ·have HF : Hid (findK st.p s = none) := by show _ = _; rw [HP.out]; exact findK_none (fun j z hj hz => HI.out j z (by rw [HN.out] at hj; omega) hz)
   obtain rfl : k = N := by omega
   have hres := errLi8_none (n := n) HF.out
   rw [HE.out, HT.out] at hres
   obtain ⟨hres1, hres2⟩ := hres
   have HR1 := Lib.hid hres1; have HR2 := Lib.hid hres2
   clear hres1 hres2
   go_wp2
   go_ret
   rw [HR1.out, HR2.out]
   exact ⟨rfl, H.out, Mv.refl _ _⟩
set_option maxHeartbeats 8000000 in
theorem setPr8_any (x : Nat) (st : R8) (s : ByteArray) (n : Int) (w : World) (h : R8At x st w) (hlen : st.s.length ≤ 100000) :
  Calls Tryz.prog 23 #[.pointer (some ⟨x, 0, none⟩), .string s, .int .i64 n] w fun e w' => e = .returned (.int .i64 (errPr8 st s n)) ∧ R8At x (setPr8 st s n) w' ∧ Mv [x] [x] w w' := by
 obtain ⟨i0, z0, hi, hz0, hz1, hz2, hz3⟩ := info_all infoAllS
 have hxl := h.lt
 obtain ⟨A, c, hcell, hcap, hrow, hoff⟩ := h.atS
 have f1 := h.frozen 3
 have H := Lib.hid h
 obtain ⟨P, hP⟩ : ∃ P, st.s = P := ⟨_, rfl⟩
 have HP := Lib.hid hP
 rw [hP] at hcell hcap hrow hlen hoff
 obtain ⟨N, hn⟩ : ∃ N, P.length = N := ⟨_, rfl⟩
 rw [hn] at hcell hcap hlen hoff
 have HR := Lib.hid hrow; have HN := Lib.hid hn; have HXL := Lib.hid hxl
 clear hrow hn hP h hoff hxl
 have hwi := within_any n 0 1099511627776 w
 obtain ⟨E, hE⟩ : ∃ E, errPr8 st s n = E := ⟨_, rfl⟩
 obtain ⟨T, hT⟩ : ∃ T, setPr8 st s n = T := ⟨_, rfl⟩
 rw [hE, hT]
 have HE := Lib.hid hE; have HT := Lib.hid hT
 clear hE hT
 go_enter Tryz.func23, Tryz.ntmps23
 go_wp2
 go_loopw [7] (fun nn wr => ∃ k : Nat, k ≤ N ∧ nn = .int .i64 k ∧ Hid (∀ j z, j < k → P[j]? = some z → Kd.key z ≠ s) ∧ wr = w) (fun nn _ => N - (intOf nn).toNat)
 case atStart => exact ⟨0, Nat.zero_le _, rfl, fun j z h => absurd h (by omega), rfl⟩
 case round =>
  obtain ⟨k, hk, rfl, HI, rfl⟩ := hrel
  have b1 : (0 : Int) ≤ (k : Int) := by omega
  by_cases hlt : k < N
  ·obtain ⟨ad, y, rfl, hab, hyk, hym, hc⟩ := HR.out.at_ (show k < P.length by rw [HN.out]; exact hlt)
   have e0 : wr.cell? (ad.add (k * 8)) = some (.string y.name) := by have h := hc 0 _ rfl; rw [show (ad.add (k * 8)).add 0 = ad.add (k * 8) from by rw [add_of_add]; rfl] at h; exact h
   have e1 : wr.cell? ⟨(ad.add (k * 8)).block, (ad.add (k * 8)).off + 1, none⟩ = some (.bool y.cash) := hc 1 _ rfl
   have HYK := Lib.hid hyk
   have b2 : (k : Int) < (N : Int) := by omega
   clear hc hyk hym
   by_cases he : y.name = s
   ·have hq : (y.name.toList == s.toList) = true := by rw [he]; simp
    have HF : Hid (findK st.s s = some y) := by show _ = _; rw [HP.out]; exact findK_at HI.out HYK.out he
    have HKEY := Lib.hid he
    clear he
    cases hin : inB n 0 1099511627776
    ·have hres := errPr8_in (n := n) HF.out hin
     rw [HE.out, HT.out] at hres
     obtain ⟨hres1, hres2⟩ := hres
     rw [hin] at hwi
     have HR1 := Lib.hid hres1; have HR2 := Lib.hid hres2
     clear hres1 hres2 hin
     go_wp2_with fail
     refine hwi.mono ?_
     rintro e w9 ⟨rfl, rfl⟩
     go_wp2
     go_ret
     rw [HR1.out, HR2.out]
     exact ⟨rfl, H.out, Mv.refl _ _⟩
    ·rw [hin] at hwi
     have hcash := e1
     cases hca : y.cash
     rotate_left
     ·have hres := errPr8_cash (n := n) HF.out hin hca
      rw [HE.out, HT.out] at hres
      obtain ⟨hres1, hres2⟩ := hres
      have HR1 := Lib.hid hres1; have HR2 := Lib.hid hres2
      rw [hca] at e1 hcash
      clear hres1 hres2 hin
      go_wp2_with fail
      refine hwi.mono ?_
      rintro e w9 ⟨rfl, rfl⟩
      go_wp2
      go_ret
      rw [HR1.out, HR2.out]
      exact ⟨rfl, H.out, Mv.refl _ _⟩
     rw [hca] at e1 hcash
     have hres := errPr8_ok (n := n) HF.out hin hca
     rw [HE.out, HT.out] at hres
     obtain ⟨hres1, hres2⟩ := hres
     have HR1 := Lib.hid hres1; have HR2 := Lib.hid hres2
     clear hres1 hres2 hin
     go_wp2_with fail
     refine hwi.mono ?_
     rintro e w9 ⟨rfl, rfl⟩
     go_wp2_with (at_builtin; go_loud (refine wpList_append_any _ rfl _ _ 37 rfl wr.heap.size 92 i0 z0 8 64 Tryz.underlying37 hi hz0 hz1 hz2 hz3 (by decide) _ _ _ rfl (World.ownsRow_nil wr wr.heap.size _ 8) wr.heap.size (some ad) N c (cellsOf P) rfl ?d1 ?d2 ?d3 ?d4 ?d5 ?_))
     case d1 => have h := HR.out.reads (fun _ _ => rfl); rw [HN.out] at h; exact h
     case d2 => exact cellsOf_one P oneS8
     case d3 => unfold maxLen; omega
     case d4 => omega
     case d5 => exact Nat.le_refl _
     intro v4 w4 hown4 hgrow4 _
     have hb4 : Below wr.heap.size wr w4 := ⟨hgrow4.os, hgrow4.tape, hgrow4.output, hgrow4.size, fun k hk => hgrow4.block k hk (by simp [Value.ownBlock])⟩
     have hown4' : w4.ownsRow wr.heap.size 92 8 v4 N (cellsOf P) := by simpa using hown4
     clear hown4 hgrow4
     obtain ⟨g4, c4, rfl, hc4, hg4⟩ := hown4'.form (by omega)
     have hge : wr.heap.size ≤ g4 := (hown4'.lt g4 rfl).1
     have hxg : x ≠ g4 := by have := HXL.out; omega
     have e4 : w4.cell? ⟨x, 3, none⟩ = some (.slice (some ad) N c) := (hb4.cell (p := ⟨x, 3, none⟩) HXL.out).trans hcell
     have f4 : w4.frozen? ⟨x, 3, none⟩ = false := by
      obtain ⟨vl, vp, va, vs, k1, _⟩ := H.out
      exact Lib.frozen_of_heap ((hb4.block x HXL.out).trans k1) 3
     have hown5 : (w4.setCell ⟨x, 3, none⟩ (.slice (some ⟨g4, 0, none⟩) N c4)).ownsRow wr.heap.size 92 8 (.slice (some ⟨g4, 0, none⟩) N c4) N (cellsOf P) :=
      Kb.own_keep' hown4' (fun k hk => Below.heap_setCell _ _ _ _ (fun e => hxg (by injection hk with hk; exact (e.symm.trans hk.symm))))
     have hcc : (cellsOf P)[k * 8 + 5]? = some (.int .i64 y.price) := cells_at (N := 8) (fun _ _ => rfl) HYK.out rfl
     have e5 : (w4.setCell ⟨x, 3, none⟩ (.slice (some ⟨g4, 0, none⟩) N c4)).cell? ⟨g4, k * 8 + 5, none⟩ = some (.int .i64 y.price) := by
      have h := hown5.cells (g := g4) rfl _ _ hcc
      rw [Addr.add_lit, Nat.zero_add] at h
      exact h
     have f5 : (w4.setCell ⟨x, 3, none⟩ (.slice (some ⟨g4, 0, none⟩) N c4)).frozen? ⟨g4, k * 8 + 5, none⟩ = false := hown5.frozenAt (k * 8 + 5)
     have HFIN : Hid (∀ W, W = (w4.setCell ⟨x, 3, none⟩ (.slice (some ⟨g4, 0, none⟩) N c4)).setCell ⟨g4, k * 8 + 5, none⟩ (.int .i64 n) → R8At x T W ∧ Mv [x] [x] wr W) := by
      intro W hW
      have hz : w4.heap.size = W.heap.size := by rw [hW]; simp [World.setCell]
      have hkeep : ∀ b, b ≠ g4 → b ≠ x → W.heap[b]? = w4.heap[b]? := fun b h1 h2 => by rw [hW]; exact (Below.heap_setCell _ _ _ _ h1).trans (Below.heap_setCell _ _ _ _ h2)
      have hm : Mv [x] [x] wr W := ⟨by rw [hW]; exact hb4.os, by rw [hW]; exact hb4.tape, by rw [hW]; exact hb4.output, by rw [← hz]; exact hb4.size, fun b hb hn => (hkeep b (by omega) (by simpa using hn)).trans (hb4.block b hb), fun _ h => .inl h⟩
      obtain ⟨vl, vp, va, vs, k1, k2, k3, k4, k5⟩ := H.out
      have hst := (hown5.stored (k * 8 + 5) (.int .i64 n)).1
      rw [cells_upd (N := 8) (y' := { y with price := n }) (fun _ _ => rfl) HYK.out rfl (by decide), ← hW] at hst
      have hsl : SlAt Asset x 8 (.slice (some ⟨g4, 0, none⟩) N c4) (P.set k { y with price := n }) W := slat_of_own hst (by rw [List.length_set]; exact HN.out) (fun _ _ => rfl) HXL.out
      have hbx : W.heap[x]? = some (.cells #[vl, vp, va, .slice (some ⟨g4, 0, none⟩) N c4] 39 (0, 0)) := by
       rw [hW]
       exact (Below.heap_setCell _ _ _ _ hxg).trans (Blk.set_ (show Blk w4 x 39 _ from (hb4.block x HXL.out).trans k1) 3 _)
      refine ⟨?_, hm⟩
      rw [HR2.out, HP.out, updK_at HI.out HYK.out HKEY.out]
      exact ⟨_, _, _, _, hbx, k2.mvx hm, k3.mvx hm, k4.mvx hm, hsl⟩
     clear hown4' hown5 hb4 hcc
     go_wp2
     go_ret
     rw [HR1.out]
     exact ⟨rfl, HFIN.out _ rfl⟩
   ·have hq : (y.name.toList == s.toList) = false := by
     rw [beq_eq_false_iff_ne]
     exact fun e => he (toList_inj e)
    have HE2 := Lib.hid he
    clear he
    go_wp2
    go_roundw
    case rel =>
     refine ⟨k + 1, hlt, by go_num, fun j z hj hz => ?_, trivial⟩
     rcases Nat.lt_or_ge j k with h1 | h1
     ·exact HI.out j z h1 hz
     ·obtain rfl : j = k := by omega
      rw [HYK.out] at hz
      injection hz with hz
      subst hz
      exact HE2.out
    case measure => simp [intOf]; omega
  ·have HF : Hid (findK st.s s = none) := by show _ = _; rw [HP.out]; exact findK_none (fun j z hj hz => HI.out j z (by rw [HN.out] at hj; omega) hz)
   obtain rfl : k = N := by omega
   have hres := errPr8_none (n := n) HF.out
   rw [HE.out, HT.out] at hres
   obtain ⟨hres1, hres2⟩ := hres
   have HR1 := Lib.hid hres1; have HR2 := Lib.hid hres2
   clear hres1 hres2
   go_wp2
   go_ret
   rw [HR1.out, HR2.out]
   exact ⟨rfl, H.out, Mv.refl _ _⟩
end Go.Proofs.YtnpkplegeddhcaaGreat
