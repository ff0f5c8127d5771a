/-
 Chapter 9's first call, whose answer the document fixes.
 Conditions: none.
-/
import Derived.Test.YtnpkplegeddhcaaGreatRef5
import Derived.Test.YtnpkplegeddhcaaGreatR8b
import Derived.Test.YtnpkplegeddhcaaGreatR8a
namespace Go.Proofs.YtnpkplegeddhcaaGreat
open Go.RowKit Go.Maps Go.Shelf Go.Sort

theorem sortsT (m : Nat) : AnyZ.SortsIn Tryz.prog Tryz.sortedA_ren Fence.wide m :=
 ⟨fun blk off cap ss W hH hblk hsz => callsIn_wide.2 (AnyM.slices_Sort_string Tryz.sortA blk off cap ss W hH hblk hsz),
  fun p cap W => callsIn_wide.2 (AnyM.slices_Sort_string_none Tryz.sortA p cap W)⟩
theorem reads_ownedT {w : World} {base n : Nat} {v : Value} {xs : List Value} (h : w.ownsRow base 9 1 v n xs) : ∃ A cap, v = .slice A n cap ∧ Reads w w.heap.size 1 A n xs ∧ ∀ ad, A = some ad → base ≤ ad.block ∧ ad.block < w.heap.size := by
 rcases h.2 with ⟨rfl, hx⟩ | ⟨g, cap, cur, rfl, hb, hh, _⟩
 ·subst hx
  have hx1 : xs = [] := List.eq_nil_of_length_eq_zero (by have := h.1; omega)
  subst hx1
  exact ⟨none, 0, rfl, Reads.none_, by simp⟩
 ·exact ⟨_, _, rfl, Reads.of_own h, fun ad e => by injection e with e; subst e; exact ⟨hb, Blk.lt (t := 9) hh⟩⟩
theorem encs (l : List (List UInt8)) : l.map encStr = strs (l.map fun x => ⟨x.toArray⟩) := by
 unfold strs
 rw [List.map_map]
 rfl
theorem own_key {α : Type} [Kd α] {w : World} {b n : Nat} {D : DataW Unit} (h : w.ownsMap Tryz.prog 9 (Kd.E α) b n D) {s : ByteArray} (hh : hasS D s = true) : s.size ≤ 9223372036854775807 := by
 obtain ⟨es, clock, _, F, _, rfl⟩ := h
 unfold hasS at hh
 rw [has_eq, List.any_eq_true] at hh
 obtain ⟨p, hp, hps⟩ := hh
 obtain ⟨v, hv⟩ := fit_keys F p (mem_sorted.1 hp)
 rw [WideAt.sameKey_eq hps] at hv
 cases v <;> simp [keyOf, Tryz.underlying9, mapKey, kS] at hv
 obtain ⟨h1, h2⟩ := hv
 unfold maxLen at h1
 have e := congrArg Array.size h2
 have e2 : ∀ x : ByteArray, x.data.size = x.size := fun _ => rfl
 rw [e2, e2] at e
 omega
theorem names_of {D : DataW Unit} {ss : List (List UInt8)} (hp : ss.Perm (strKeys D)) : ss.length = (lstS D).length ∧ (ss.mergeSort (fun x y => decide (x ≤ y))).map encStr = strs (lstS D) := by
 have hsort : ss.mergeSort (fun x y => decide (x ≤ y)) = (strKeys D).mergeSort leB := mergeSort_of_perm hp
 refine ⟨by rw [hp.length_eq]; unfold lstS; rw [List.length_map, List.length_mergeSort], ?_⟩
 rw [hsort, encs]
 rfl
section
variable {α : Type} [Kd α]
/-- All records, in their names' order. -/
def rowsOf (α : Type) [Kd α] (D : DataW Unit) : List α := (lstS D).map (recAt α D)
theorem cellsOf_snoc (l : List α) (x : α) : cellsOf (l ++ [x]) = cellsOf l ++ (Kd.val x).cells.toList := by simp [cellsOf]
end

theorem own_low {w : World} {b b' N n : Nat} {e : TypeId} {v : Value} {xs : List Value} (h : w.ownsRow b e N v n xs) (hb : b' ≤ b) : w.ownsRow b' e N v n xs := by
 obtain ⟨h1, h2⟩ := h
 refine ⟨h1, h2.imp id ?_⟩
 rintro ⟨g, cap, cur, h3, h4, h5⟩
 exact ⟨g, cap, cur, h3, Nat.le_trans hb h4, h5⟩
theorem infoAllP : (Tryz.prog.info? 84).map (fun i => (i.zero.map (·.cells.size), i.size, i.bytes)) = some (some 2, 2, 24) := by kernel_rfl
theorem keysP_all (mb : Option Nat) (W : World) : Calls Tryz.prog 160 #[.map mb] W fun e w' => e = .returned (.func (.func 198) #[] #[.pointer (some ⟨W.heap.size, 0, none⟩)]) ∧ w' = W.alloc (.cells #[.map mb] 78) :=
 callsIn_wide.1 (AnyZ.keys_in Tryz.keysP Fence.wide 5 trivial rfl mb W)
theorem namesP_any (v : Value) (D : DataW Unit) (w : World) (hm : MapAt Party v D w) (hmax : Maps.size D ≤ 1000000) :
  Calls Tryz.prog 159 #[.func (.func 198) #[] #[.pointer (some ⟨w.heap.size, 0, none⟩)]] (w.alloc (.cells #[v] 78)) fun e w' =>
   ∃ (A : Option Addr) (cap : Nat), e = .returned (.slice A (lstS D).length cap) ∧ Reads w' w'.heap.size 1 A (lstS D).length (strs (lstS D)) ∧ (∀ ad, A = some ad → w.heap.size ≤ ad.block) ∧ Below w.heap.size w w' := by
 have hgoal : ∀ (Q : List (List UInt8) → Prop) (n0 : Nat), n0 ≤ 1000000 → (∀ ss, Q ss → ss.Perm (strKeys D)) →
   SeqGives Fence.wide 2 Tryz.prog 198 #[.pointer (some ⟨w.heap.size, 0, none⟩)] encStr Q n0 (w.alloc (.cells #[v] 78)) →
   Calls Tryz.prog 159 #[.func (.func 198) #[] #[.pointer (some ⟨w.heap.size, 0, none⟩)]] (w.alloc (.cells #[v] 78)) fun e w' =>
   ∃ (A : Option Addr) (cap : Nat), e = .returned (.slice A (lstS D).length cap) ∧ Reads w' w'.heap.size 1 A (lstS D).length (strs (lstS D)) ∧ (∀ ad, A = some ad → w.heap.size ≤ ad.block) ∧ Below w.heap.size w w' := by
  intro Q n0 hn0 hQ hseq
  have cS := AnyZ.sorted_in Tryz.sortedA Fence.wide 5 trivial trivial trivial trivial rfl (by omega) (sortsT _) (enters_of Tryz.func197 (by kernel_rfl) rfl) 198 #[.pointer (some ⟨w.heap.size, 0, none⟩)] trivial (enters_of Tryz.func198 (by kernel_rfl) rfl) _ _ (by unfold maxLen; omega) (by omega) _ hseq
  refine (callsIn_wide.1 cS).mono ?_
  rw [World.size_alloc]
  rintro e w2 ⟨v2, ss, rfl, hp, hown, _, hb2⟩
  obtain ⟨hln, hst⟩ := names_of (hQ ss hp)
  rw [hln, hst] at hown
  obtain ⟨A, cap, rfl, hrd, hbk⟩ := reads_ownedT hown
  exact ⟨A, cap, rfl, hrd, fun ad e => by have := (hbk ad e).1; omega, ((Below.refl w.heap.size w).alloc (Nat.le_refl _) _).trans (hb2.mono (by omega))⟩
 rcases hm with ⟨rfl, rfl⟩ | ⟨b, rfl, hown⟩
 ·exact hgoal _ 0 (by omega) (fun ss h => by subst h; exact List.Perm.refl _) (AnyZ.keys_gives_nil (ρ := Tryz.keysP_ren) { Tryz.keysP with } Fence.wide _ trivial rfl w.heap.size _ (by simp) (by simp))
 ·have hbl := hown.lt
  exact hgoal _ _ hmax (fun ss h => h) (AnyZ.keys_gives (ρ := Tryz.keysP_ren) { Tryz.keysP with } Fence.wide _ trivial rfl (by omega) w.heap.size b _ D _ (by simp) (by simp) (by
   obtain ⟨es, clock, hb, Ft, hs, hD⟩ := hown
   exact ⟨es, clock, (Below.heap_alloc _ _ b hbl).trans hb, Ft, hs, hD⟩))
set_option maxHeartbeats 4000000 in
set_option maxRecDepth 10000 in
theorem sortedP_any (v : Value) (D : DataW Unit) (hg : GoodR Party D) (hD : Maps.size D ≤ 20) (w : World) (hm : MapAt Party v D w) :
  Calls Tryz.prog 74 #[v] w fun e w' => ∃ u, e = .returned u ∧ w'.ownsRow w.heap.size 84 2 u (rowsOf Party D).length (cellsOf (rowsOf Party D)) ∧ Below w.heap.size w w' := by
 obtain ⟨i0, z0, hi, hz0, hz1, hz2, hz3⟩ := info_all infoAllP
 have hvs : ∃ mb, v = .map mb := hm.elim (fun h => ⟨_, h.1⟩) (fun ⟨b, h, _⟩ => ⟨_, h⟩)
 obtain ⟨mb, rfl⟩ := hvs
 have HN := Lib.hid (namesP_any (.map mb) D w hm (by omega))
 obtain ⟨n, hn⟩ : ∃ n, (lstS D).length = n := ⟨_, rfl⟩
 have hn20 : n ≤ 20 := by rw [← hn, lstS_len hg.keys]; exact hD
 have Hn := Lib.hid hn
 have HMP := Lib.hid hm
 have HG := Lib.hid hg
 clear hm hg
 go_enter Tryz.func74, Tryz.ntmps74
 go_wp2_with fail
 refine (keysP_all _ _).mono ?_
 rintro e w1 ⟨rfl, rfl⟩
 go_wp2_with fail
 refine HN.out.mono ?_
 rintro e w2 ⟨A, cap, rfl, hrd, hab, hb2⟩
 rw [hn] at hrd ⊢
 have HR := Lib.hid hrd
 have HB2 := Lib.hid hb2
 have HM2 := Lib.hid (HMP.out.below hb2)
 clear hrd hb2 HN hn hab
 go_wp2
 go_loopw [3, 10] (fun u i wr => ∃ k : Nat, k ≤ n ∧ i = .int .i64 k ∧ Hid (wr.ownsRow w2.heap.size 84 2 u k (cellsOf ((rowsOf Party D).take k))) ∧ Hid (Below w2.heap.size w2 wr)) (fun _ i _ => n - (intOf i).toNat)
 case atStart => exact ⟨0, Nat.zero_le _, rfl, ⟨rfl, .inl ⟨rfl, rfl⟩⟩, Below.refl _ _⟩
 case round =>
  obtain ⟨k, hk, rfl, HO, HB⟩ := hrel
  by_cases hlt : k < n
  ·obtain ⟨ad, s, rfl, hab, hsk, hcs⟩ := str_at (HR.out.below HB.out) hlt
   obtain ⟨b, hmb, hown⟩ : ∃ b, mb = some b ∧ w2.ownsMap Tryz.prog 9 (Kd.E Party) b (Maps.size D) D := by
    rcases HM2.out with ⟨_, h⟩ | ⟨b, h, h2⟩
    ·rw [h] at Hn
     have := Hn.out
     have h0 : (lstS (.map [] : DataW Unit)).length = 0 := by rw [lstS_len goodS_none]; rfl
     omega
    ·injection h with h
     exact ⟨b, h, h2⟩
   subst hmb
   have hsz : s.size ≤ 9223372036854775807 := own_key hown ((mem_lstS HG.out.keys s).1 (List.mem_of_getElem? hsk))
   have hlk0 := run_look (α := Party) Tryz.underlying78 (zeroP wr) (own_keep hown (HB.out.block b hown.lt)) HG.out hsz
   obtain ⟨y, hy⟩ : ∃ y, recAt Party D s = y := ⟨_, rfl⟩
   rw [hy] at hlk0
   have hlk : (Instr.lookup 78 (.map (some b)) (.string s) false).run Tryz.prog wr = .ok (.agg #[.string y.name, .int .i64 y.limit]) wr := hlk0
   have hyk : (rowsOf Party D)[k]? = some y := by unfold rowsOf; rw [List.getElem?_map, hsk, ← hy]; rfl
   have HY : Hid (cellsOf ((rowsOf Party D).take (k + 1)) = cellsOf ((rowsOf Party D).take k) ++ [.string y.name, .int .i64 y.limit]) := by
    show _ = _
    rw [take_snoc hyk, cellsOf_snoc]
    rfl
   have hown3 := HO.out
   have hzw := HB.out.size
   clear hlk0 hsk hown hy hyk hsz hab
   go_wp2_with (at_builtin; refine wpList_append_any _ rfl _ _ 35 rfl w2.heap.size 84 i0 z0 2 24 Tryz.underlying35 hi hz0 hz1 hz2 hz3 (by decide) _ _ _ rfl (hown3.alloc _) (wr.heap.size + 1) (some ⟨wr.heap.size, 0, none⟩) 1 1 [.string y.name, .int .i64 y.limit] rfl ?c1 ?c2 ?c3 ?c4 ?c5 ?_)
   case c1 => exact reads_newN wr _ _ _ rfl rfl
   case c2 => simp [Value.oneCell']
   case c3 => unfold maxLen; omega
   case c4 => omega
   case c5 => simp; omega
   intro v3 w3 hown4 hgrow4 hlink4
   have HO4 : Hid (w3.ownsRow w2.heap.size 84 2 v3 (k + 1) (cellsOf ((rowsOf Party D).take (k + 1)))) := by show World.ownsRow _ _ _ _ _ _ _; rw [HY.out]; exact hown4
   have HB4 := Lib.hid ((HB.out.alloc hzw (.cells #[.string y.name, .int .i64 y.limit] 84)).grown hgrow4 (by simp; omega) (fun j hj => (hown3.lt j hj).1))
   clear hown4 hgrow4 hlink4 hown3 hlk hcs
   go_wp2
   go_roundw
   case rel => exact ⟨k + 1, hlt, by go_num, HO4.out, HB4.out⟩
   case measure => simp [intOf]; omega
  ·obtain rfl : k = n := by omega
   have hl : (rowsOf Party D).length = k := by unfold rowsOf; rw [List.length_map]; exact Hn.out
   have ho := HO.out
   rw [List.take_of_length_le (by rw [hl]; exact Nat.le_refl _), ← hl] at ho
   have hrow := own_low ho HB2.out.size
   have HRW := Lib.hid hrow
   clear ho hrow HO
   go_wp2
   go_ret
   exact ⟨_, rfl, HRW.out, HB2.out.trans (HB.out.mono HB2.out.size)⟩
set_option maxHeartbeats 1000000 in
theorem allP_any (r : Nat) (st : Rf) (hok : st.Ok) (w : World) (h : RefAt r st w) :
  Calls Tryz.prog 37 #[.pointer (some ⟨r, 0, none⟩)] w fun e w' => ∃ u, e = .returned u ∧ w'.ownsRow w.heap.size 84 2 u (rowsOf Party st.p).length (cellsOf (rowsOf Party st.p)) ∧ Below w.heap.size w w' := by
 obtain ⟨v, hcell, hm⟩ : ∃ v, w.cell? ⟨r, 1, none⟩ = some v ∧ MapAt Party v st.p w := (fun ⟨b, h1, h2, _⟩ => ⟨_, h1, .inr ⟨b, rfl, h2⟩⟩) h.ownP
 have HS := Lib.hid (sortedP_any v st.p hok.gp (by have := hok.np; omega) w hm)
 have hvs : ∃ mb, v = .map mb := hm.elim (fun h => ⟨_, h.1⟩) (fun ⟨b, h, _⟩ => ⟨_, h⟩)
 obtain ⟨mb, rfl⟩ := hvs
 clear hm hok h
 go_enter Tryz.func37, Tryz.ntmps37
 go_wp2_with fail
 refine HS.out.mono ?_
 rintro e w1 ⟨u, rfl, hrow, hb⟩
 have HR := Lib.hid hrow
 have HB := Lib.hid hb
 clear hrow hb HS
 go_wp2
 go_ret
 exact ⟨u, rfl, HR.out, HB.out⟩

theorem infoAllS : (Tryz.prog.info? 92).map (fun i => (i.zero.map (·.cells.size), i.size, i.bytes)) = some (some 8, 8, 64) := by kernel_rfl
theorem keysS_all (mb : Option Nat) (W : World) : Calls Tryz.prog 163 #[.map mb] W fun e w' => e = .returned (.func (.func 200) #[] #[.pointer (some ⟨W.heap.size, 0, none⟩)]) ∧ w' = W.alloc (.cells #[.map mb] 80) :=
 callsIn_wide.1 (AnyZ.keys_in Tryz.keysS Fence.wide 5 trivial rfl mb W)
theorem namesS_any (v : Value) (D : DataW Unit) (w : World) (hm : MapAt Asset v D w) (hmax : Maps.size D ≤ 1000000) :
  Calls Tryz.prog 159 #[.func (.func 200) #[] #[.pointer (some ⟨w.heap.size, 0, none⟩)]] (w.alloc (.cells #[v] 80)) fun e w' =>
   ∃ (A : Option Addr) (cap : Nat), e = .returned (.slice A (lstS D).length cap) ∧ Reads w' w'.heap.size 1 A (lstS D).length (strs (lstS D)) ∧ (∀ ad, A = some ad → w.heap.size ≤ ad.block) ∧ Below w.heap.size w w' := by
 have hgoal : ∀ (Q : List (List UInt8) → Prop) (n0 : Nat), n0 ≤ 1000000 → (∀ ss, Q ss → ss.Perm (strKeys D)) →
   SeqGives Fence.wide 2 Tryz.prog 200 #[.pointer (some ⟨w.heap.size, 0, none⟩)] encStr Q n0 (w.alloc (.cells #[v] 80)) →
   Calls Tryz.prog 159 #[.func (.func 200) #[] #[.pointer (some ⟨w.heap.size, 0, none⟩)]] (w.alloc (.cells #[v] 80)) fun e w' =>
   ∃ (A : Option Addr) (cap : Nat), e = .returned (.slice A (lstS D).length cap) ∧ Reads w' w'.heap.size 1 A (lstS D).length (strs (lstS D)) ∧ (∀ ad, A = some ad → w.heap.size ≤ ad.block) ∧ Below w.heap.size w w' := by
  intro Q n0 hn0 hQ hseq
  have cS := AnyZ.sorted_in Tryz.sortedA Fence.wide 5 trivial trivial trivial trivial rfl (by omega) (sortsT _) (enters_of Tryz.func197 (by kernel_rfl) rfl) 200 #[.pointer (some ⟨w.heap.size, 0, none⟩)] trivial (enters_of Tryz.func200 (by kernel_rfl) rfl) _ _ (by unfold maxLen; omega) (by omega) _ hseq
  refine (callsIn_wide.1 cS).mono ?_
  rw [World.size_alloc]
  rintro e w2 ⟨v2, ss, rfl, hp, hown, _, hb2⟩
  obtain ⟨hln, hst⟩ := names_of (hQ ss hp)
  rw [hln, hst] at hown
  obtain ⟨A, cap, rfl, hrd, hbk⟩ := reads_ownedT hown
  exact ⟨A, cap, rfl, hrd, fun ad e => by have := (hbk ad e).1; omega, ((Below.refl w.heap.size w).alloc (Nat.le_refl _) _).trans (hb2.mono (by omega))⟩
 rcases hm with ⟨rfl, rfl⟩ | ⟨b, rfl, hown⟩
 ·exact hgoal _ 0 (by omega) (fun ss h => by subst h; exact List.Perm.refl _) (AnyZ.keys_gives_nil (ρ := Tryz.keysS_ren) { Tryz.keysS with } Fence.wide _ trivial rfl w.heap.size _ (by simp) (by simp))
 ·have hbl := hown.lt
  exact hgoal _ _ hmax (fun ss h => h) (AnyZ.keys_gives (ρ := Tryz.keysS_ren) { Tryz.keysS with } Fence.wide _ trivial rfl (by omega) w.heap.size b _ D _ (by simp) (by simp) (by
   obtain ⟨es, clock, hb, Ft, hs, hD⟩ := hown
   exact ⟨es, clock, (Below.heap_alloc _ _ b hbl).trans hb, Ft, hs, hD⟩))
set_option maxHeartbeats 4000000 in
set_option maxRecDepth 10000 in
theorem sortedS_any (v : Value) (D : DataW Unit) (hg : GoodR Asset D) (hD : Maps.size D ≤ 20) (w : World) (hm : MapAt Asset v D w) :
  Calls Tryz.prog 78 #[v] w fun e w' => ∃ u, e = .returned u ∧ w'.ownsRow w.heap.size 92 8 u (rowsOf Asset D).length (cellsOf (rowsOf Asset D)) ∧ Below w.heap.size w w' := by
 obtain ⟨i0, z0, hi, hz0, hz1, hz2, hz3⟩ := info_all infoAllS
 have hvs : ∃ mb, v = .map mb := hm.elim (fun h => ⟨_, h.1⟩) (fun ⟨b, h, _⟩ => ⟨_, h⟩)
 obtain ⟨mb, rfl⟩ := hvs
 have HN := Lib.hid (namesS_any (.map mb) D w hm (by omega))
 obtain ⟨n, hn⟩ : ∃ n, (lstS D).length = n := ⟨_, rfl⟩
 have hn20 : n ≤ 20 := by rw [← hn, lstS_len hg.keys]; exact hD
 have Hn := Lib.hid hn
 have HMP := Lib.hid hm
 have HG := Lib.hid hg
 clear hm hg
 go_enter Tryz.func78, Tryz.ntmps78
 go_wp2_with fail
 refine (keysS_all _ _).mono ?_
 rintro e w1 ⟨rfl, rfl⟩
 go_wp2_with fail
 refine HN.out.mono ?_
 rintro e w2 ⟨A, cap, rfl, hrd, hab, hb2⟩
 rw [hn] at hrd ⊢
 have HR := Lib.hid hrd
 have HB2 := Lib.hid hb2
 have HM2 := Lib.hid (HMP.out.below hb2)
 clear hrd hb2 HN hn hab
 go_wp2
 go_loopw [3, 10] (fun u i wr => ∃ k : Nat, k ≤ n ∧ i = .int .i64 k ∧ Hid (wr.ownsRow w2.heap.size 92 8 u k (cellsOf ((rowsOf Asset D).take k))) ∧ Hid (Below w2.heap.size w2 wr)) (fun _ i _ => n - (intOf i).toNat)
 case atStart => exact ⟨0, Nat.zero_le _, rfl, ⟨rfl, .inl ⟨rfl, rfl⟩⟩, Below.refl _ _⟩
 case round =>
  obtain ⟨k, hk, rfl, HO, HB⟩ := hrel
  by_cases hlt : k < n
  ·obtain ⟨ad, s, rfl, hab, hsk, hcs⟩ := str_at (HR.out.below HB.out) hlt
   obtain ⟨b, hmb, hown⟩ : ∃ b, mb = some b ∧ w2.ownsMap Tryz.prog 9 (Kd.E Asset) b (Maps.size D) D := by
    rcases HM2.out with ⟨_, h⟩ | ⟨b, h, h2⟩
    ·rw [h] at Hn
     have := Hn.out
     have h0 : (lstS (.map [] : DataW Unit)).length = 0 := by rw [lstS_len goodS_none]; rfl
     omega
    ·injection h with h
     exact ⟨b, h, h2⟩
   subst hmb
   have hsz : s.size ≤ 9223372036854775807 := own_key hown ((mem_lstS HG.out.keys s).1 (List.mem_of_getElem? hsk))
   have hlk0 := run_look (α := Asset) Tryz.underlying80 (zeroS wr) (own_keep hown (HB.out.block b hown.lt)) HG.out hsz
   obtain ⟨y, hy⟩ : ∃ y, recAt Asset D s = y := ⟨_, rfl⟩
   rw [hy] at hlk0
   have hlk : (Instr.lookup 80 (.map (some b)) (.string s) false).run Tryz.prog wr = .ok (.agg #[.string y.name, .bool y.cash, .bool y.pledge, .int .i64 y.unit, .int .i64 y.least, .int .i64 y.price, .int .i64 y.cut, .int .i64 y.close]) wr := hlk0
   have hyk : (rowsOf Asset D)[k]? = some y := by unfold rowsOf; rw [List.getElem?_map, hsk, ← hy]; rfl
   have HY : Hid (cellsOf ((rowsOf Asset D).take (k + 1)) = cellsOf ((rowsOf Asset D).take k) ++ [.string y.name, .bool y.cash, .bool y.pledge, .int .i64 y.unit, .int .i64 y.least, .int .i64 y.price, .int .i64 y.cut, .int .i64 y.close]) := by
    show _ = _
    rw [take_snoc hyk, cellsOf_snoc]
    rfl
   have hown3 := HO.out
   have hzw := HB.out.size
   clear hlk0 hsk hown hy hyk hsz hab
   go_wp2_with (at_builtin; refine wpList_append_any _ rfl _ _ 37 rfl w2.heap.size 92 i0 z0 8 64 Tryz.underlying37 hi hz0 hz1 hz2 hz3 (by decide) _ _ _ rfl (hown3.alloc _) (wr.heap.size + 1) (some ⟨wr.heap.size, 0, none⟩) 1 1 [.string y.name, .bool y.cash, .bool y.pledge, .int .i64 y.unit, .int .i64 y.least, .int .i64 y.price, .int .i64 y.cut, .int .i64 y.close] rfl ?c1 ?c2 ?c3 ?c4 ?c5 ?_)
   case c1 => exact reads_newN wr _ _ _ rfl rfl
   case c2 => simp [Value.oneCell']
   case c3 => unfold maxLen; omega
   case c4 => omega
   case c5 => simp; omega
   intro v3 w3 hown4 hgrow4 hlink4
   have HO4 : Hid (w3.ownsRow w2.heap.size 92 8 v3 (k + 1) (cellsOf ((rowsOf Asset D).take (k + 1)))) := by show World.ownsRow _ _ _ _ _ _ _; rw [HY.out]; exact hown4
   have HB4 := Lib.hid ((HB.out.alloc hzw (.cells #[.string y.name, .bool y.cash, .bool y.pledge, .int .i64 y.unit, .int .i64 y.least, .int .i64 y.price, .int .i64 y.cut, .int .i64 y.close] 92)).grown hgrow4 (by simp; omega) (fun j hj => (hown3.lt j hj).1))
   clear hown4 hgrow4 hlink4 hown3 hlk hcs
   go_wp2
   go_roundw
   case rel => exact ⟨k + 1, hlt, by go_num, HO4.out, HB4.out⟩
   case measure => simp [intOf]; omega
  ·obtain rfl : k = n := by omega
   have hl : (rowsOf Asset D).length = k := by unfold rowsOf; rw [List.length_map]; exact Hn.out
   have ho := HO.out
   rw [List.take_of_length_le (by rw [hl]; exact Nat.le_refl _), ← hl] at ho
   have hrow := own_low ho HB2.out.size
   have HRW := Lib.hid hrow
   clear ho hrow HO
   go_wp2
   go_ret
   exact ⟨_, rfl, HRW.out, HB2.out.trans (HB.out.mono HB2.out.size)⟩
set_option maxHeartbeats 1000000 in
theorem allS_any (r : Nat) (st : Rf) (hok : st.Ok) (w : World) (h : RefAt r st w) :
  Calls Tryz.prog 39 #[.pointer (some ⟨r, 0, none⟩)] w fun e w' => ∃ u, e = .returned u ∧ w'.ownsRow w.heap.size 92 8 u (rowsOf Asset st.s).length (cellsOf (rowsOf Asset st.s)) ∧ Below w.heap.size w w' := by
 obtain ⟨v, hcell, hm⟩ : ∃ v, w.cell? ⟨r, 3, none⟩ = some v ∧ MapAt Asset v st.s w := h.mapS
 have HS := Lib.hid (sortedS_any v st.s hok.gs (by have := hok.ns; omega) w hm)
 have hvs : ∃ mb, v = .map mb := hm.elim (fun h => ⟨_, h.1⟩) (fun ⟨b, h, _⟩ => ⟨_, h⟩)
 obtain ⟨mb, rfl⟩ := hvs
 clear hm hok h
 go_enter Tryz.func39, Tryz.ntmps39
 go_wp2_with fail
 refine HS.out.mono ?_
 rintro e w1 ⟨u, rfl, hrow, hb⟩
 have HR := Lib.hid hrow
 have HB := Lib.hid hb
 clear hrow hb HS
 go_wp2
 go_ret
 exact ⟨u, rfl, HR.out, HB.out⟩
end Go.Proofs.YtnpkplegeddhcaaGreat
namespace Go.Proofs.YtnpkplegeddhcaaGreat
open Go.RowKit Go.Maps Go.Shelf

theorem RefAt.mv {r x : Nat} {st : Rf} {w w' : World} (h : RefAt x st w) (hm : Mv [r] [r] w w') {st' : Rf} (hr : RefAt r st' w) (hne : x ≠ r) : RefAt x st w' := by
 obtain ⟨_, _, _, _, hb, _⟩ := hr
 have hx := h.lt
 obtain ⟨c, vp, va, vs, h1, hp, ha, h2, h3, h4, h5, h6⟩ := h
 have keep : ∀ {α : Type} [Kd α] {v : Value} {D : DataW Unit}, MapAt α v D w → MapAt α v D w' := by
  intro α _ v D hm2
  rcases hm2 with h | ⟨b, h7, h8⟩
  ·exact .inl h
  ·exact .inr ⟨b, h7, own_keep h8 (hm.block b h8.lt (by have := blk_own_ne h8 hb; simpa using this))⟩
 refine ⟨c, vp, va, vs, (hm.block x hx (by simpa using hne)).trans h1, hp, ha, keep h2, keep h3, keep h4, ?_, h6⟩
 have hcl := h5.lt
 obtain ⟨b, n, h9, h10⟩ := h5
 have hcr : c ≠ r := by
  rintro rfl
  rw [hb] at h9
  injection h9 with h9
  injection h9 with _ h9
  exact absurd h9 (by decide)
 refine ⟨b, n, (hm.block c hcl (by simpa using hcr)).trans h9, ?_⟩
 have hbr := blk_own_ne h10 hb
 have hbl := h10.lt
 obtain ⟨es, clock, h11, h12⟩ := h10
 exact ⟨es, clock, (hm.block b hbl (by simpa using hbr)).trans h11, h12⟩
theorem RefAt.cal {r : Nat} {st : Rf} {w : World} (h : RefAt r st w) : ∃ c, w.cell? ⟨r, 0, none⟩ = some (.pointer (some ⟨c, 0, none⟩)) ∧ CalAt c st.h w := by
 obtain ⟨c, vp, va, vs, h1, hp, ha, h2, h3, h4, h5, h6⟩ := h
 exact ⟨c, by rw [Lib.cell_of_heap h1]; rfl, h5⟩
def tP : ByteArray := ⟨#[80]⟩
def tA : ByteArray := ⟨#[65]⟩
def al1 : Rf := addP rf0 [⟨tP, 10⟩]
theorem al_e1 : errP rf0 [⟨tP, 10⟩] = 0 := by decide +kernel
theorem al_e2 : errC al1 [⟨tA, tP⟩, ⟨tA, tP⟩] = 8 := by decide +kernel
theorem al_s2 : addC al1 [⟨tA, tP⟩, ⟨tA, tP⟩] = al1 := by
 unfold addC outR
 rw [if_neg (by have := al_e2; unfold errC at this; rw [this]; decide)]
theorem al_h1 : hasS al1.a tA = false := by decide +kernel
theorem al_h2 : hasS al1.p bankS = true := by decide +kernel
theorem al_r2 : (recAt Party al1.p bankS).limit = 0 := by decide +kernel
theorem al_b4 : isB (setD []) 4 = true := by decide +kernel
theorem al_b5 : isB (setD []) 5 = false := by decide +kernel
theorem al_ok : al1.Ok := addP_ok rf0_ok _
theorem rows_len {α : Type} [Kd α] {D : DataW Unit} (h : GoodR α D) : (rowsOf α D).length = Maps.size D := by unfold rowsOf; rw [List.length_map, lstS_len h.keys]
theorem al_n : (rowsOf Party al1.p).length = 2 := by rw [rows_len al_ok.gp]; decide +kernel

set_option maxHeartbeats 4000000 in
set_option maxRecDepth 10000 in
theorem alive9_any (w : World) : Calls Tryz.prog 5 #[] w fun e w' => e = .returned (.bool true) ∧ Below w.heap.size w w' := by
 go_enter Tryz.func5, Tryz.ntmps5
 go_wp2_with fail
 refine (new_nil w).mono ?_
 rintro e w1 ⟨r, rfl, hr, hk1, hb1, _⟩
 have HB1 := Lib.hid hb1
 have HK1 := Lib.hid hk1
 clear hk1 hb1
 have HP := addParties_any r rf0 rf0_ok [⟨tP, 10⟩] (some ⟨w1.heap.size, 0, none⟩) 1 _ (HK1.out.below ((Below.refl _ _).alloc (Nat.le_refl _) (.cells #[.string ⟨#[80]⟩, .int .i64 10] 84))) (rows_newN (N := 2) w1 ([⟨tP, 10⟩] : List Party) 84 #[.string ⟨#[80]⟩, .int .i64 10] rfl (fun _ _ => rfl)) (by decide)
 rw [al_e1] at HP
 go_wp2_with fail
 refine HP.mono ?_
 rintro e w2 ⟨rfl, hk2, hm2⟩
 have hz2 := hm2.mv.size
 have hb2 : Below w.heap.size w w2 := (HB1.out.alloc HB1.out.size _).trans (hm2.mv.below (by simpa using hr) (by have := HB1.out.size; simp; omega))
 have HB2 := Lib.hid hb2
 have HK2 : Hid (RefAt r al1 w2) := hk2
 clear hk2 hb2 hm2 HP HK1 HB1 hz2
 have HC := addAccounts_any r al1 al_ok [⟨tA, tP⟩, ⟨tA, tP⟩] (some ⟨w2.heap.size, 0, none⟩) 2 _ (HK2.out.below ((Below.refl _ _).alloc (Nat.le_refl _) (.cells #[.string ⟨#[65]⟩, .string ⟨#[80]⟩, .string ⟨#[65]⟩, .string ⟨#[80]⟩] 88))) (rows_newN (N := 2) w2 ([⟨tA, tP⟩, ⟨tA, tP⟩] : List Account) 88 #[.string ⟨#[65]⟩, .string ⟨#[80]⟩, .string ⟨#[65]⟩, .string ⟨#[80]⟩] rfl (fun _ _ => rfl)) (by decide) (by intro x hx; simp at hx; subst hx; decide)
 rw [al_e2, al_s2] at HC
 go_wp2_with fail
 refine HC.mono ?_
 rintro e w3 ⟨rfl, hk3, hm3⟩
 have hb3 : Below w.heap.size w w3 := (HB2.out.alloc HB2.out.size _).trans (hm3.mv.below (by simpa using hr) (by have := HB2.out.size; simp; omega))
 have HB3 := Lib.hid hb3
 have HK3 := Lib.hid hk3
 clear hk3 hb3 hm3 HC HK2 HB2
 have HG := getC_any r al1 al_ok.ga tA (by decide) w3 HK3.out
 rw [al_h1] at HG
 obtain ⟨y, hy⟩ : ∃ y, recAt Account al1.a tA = y := ⟨_, rfl⟩
 rw [hy] at HG
 clear hy
 obtain ⟨n1, p1⟩ := y
 have HG2 : Calls Tryz.prog 29 #[.pointer (some ⟨r, 0, none⟩), .string ⟨#[65]⟩] w3 fun e w' => e = .returned (.tuple #[.agg #[.string n1, .string p1], .bool false]) ∧ Below w3.heap.size w3 w' := HG
 clear HG
 go_wp2_with fail
 refine HG2.mono ?_
 rintro e w4 ⟨rfl, hb4⟩
 have hB4 : Below w.heap.size w (w4.alloc (.cells #[.string n1, .string p1] 88)) := (HB3.out.trans (hb4.mono HB3.out.size)).alloc (by have := HB3.out.size; have := hb4.size; omega) _
 have hk4 : RefAt r al1 (w4.alloc (.cells #[.string n1, .string p1] 88)) := (HK3.out.below hb4).below ((Below.refl _ _).alloc (Nat.le_refl _) _)
 obtain ⟨W4, hW4⟩ : ∃ W4, w4.alloc (.cells #[.string n1, .string p1] 88) = W4 := ⟨_, rfl⟩
 rw [hW4] at hB4 hk4
 have HB4 := Lib.hid hB4; have HK4 := Lib.hid hk4; have HW4 := Lib.hid hW4
 clear hB4 hk4 hW4 hb4 HB3 HK3 HG2
 have HG := getP_any r al1 al_ok.gp bankS (by decide) W4 HK4.out
 rw [al_h2] at HG
 have hlim := al_r2
 obtain ⟨y, hy⟩ : ∃ y, recAt Party al1.p bankS = y := ⟨_, rfl⟩
 rw [hy] at HG hlim
 clear hy
 obtain ⟨n2, l2⟩ := y
 have hl2 : l2 = 0 := hlim
 subst hl2
 clear hlim
 have HG2 : Calls Tryz.prog 27 #[.pointer (some ⟨r, 0, none⟩), .string ⟨#[66, 65, 78, 75]⟩] W4 fun e w' => e = .returned (.tuple #[.agg #[.string n2, .int .i64 0], .bool true]) ∧ Below W4.heap.size W4 w' := HG
 clear HG
 go_wp2_with fail
 rw [HW4.out]
 refine HG2.mono ?_
 rintro e w5 ⟨rfl, hb5⟩
 have hB5 : Below w.heap.size w (w5.alloc (.cells #[.string n2, .int .i64 0] 84)) := (HB4.out.trans (hb5.mono HB4.out.size)).alloc (by have := HB4.out.size; have := hb5.size; omega) _
 have hk5 : RefAt r al1 (w5.alloc (.cells #[.string n2, .int .i64 0] 84)) := (HK4.out.below hb5).below ((Below.refl _ _).alloc (Nat.le_refl _) _)
 have hc5 : (w5.alloc (.cells #[.string n2, .int .i64 0] 84)).cell? ⟨w5.heap.size, 1, none⟩ = some (.int .i64 0) := by rw [Lib.cell_of_heap (heap_alloc_new w5 _)]; rfl
 obtain ⟨W5, hW5⟩ : ∃ W5, w5.alloc (.cells #[.string n2, .int .i64 0] 84) = W5 := ⟨_, rfl⟩
 rw [hW5] at hB5 hk5 hc5
 obtain ⟨c, hcal, hcat⟩ := hk5.cal
 have hcell5 : w5.cell? ⟨r, 0, none⟩ = some (.pointer (some ⟨c, 0, none⟩)) := by rw [← hcal, ← hW5]; exact (World.cell?_alloc_lt _ _ ⟨r, 0, none⟩ (HK4.out.below hb5).lt).symm
 have hrl5 := (HK4.out.below hb5).lt
 have HB5 := Lib.hid hB5; have HK5 := Lib.hid hk5; have HW5 := Lib.hid hW5
 have I4 := is_any c (setD []) 4 (by decide) (by decide) W5 hcat
 rw [al_b4] at I4
 clear hB5 hk5 hW5 hb5 HB4 HK4 HG2 HW4
 go_wp2_with fail
 rw [HW5.out]
 refine I4.mono ?_
 rintro e w6 ⟨rfl, hb6⟩
 have I5 := is_any c (setD []) 5 (by decide) (by decide) w6 (hcat.below hb6)
 rw [al_b5] at I5
 have hcal6 : w6.cell? ⟨r, 0, none⟩ = some (.pointer (some ⟨c, 0, none⟩)) := (hb6.cell (p := ⟨r, 0, none⟩) HK5.out.lt).trans hcal
 have HK6 := Lib.hid (HK5.out.below hb6)
 have HB6 := Lib.hid (HB5.out.trans (hb6.mono HB5.out.size))
 clear hb6 HK5 HB5 hcal hcat I4 HW5 hcell5 hc5
 go_wp2_with fail
 refine I5.mono ?_
 rintro e w7 ⟨rfl, hb7⟩
 have HK7 := Lib.hid (HK6.out.below hb7)
 have HB7 := Lib.hid (HB6.out.trans (hb7.mono HB6.out.size))
 clear hb7 HK6 HB6 I5 hcal6
 have HL := allP_any r al1 al_ok w7 HK7.out
 rw [al_n] at HL
 go_wp2_with fail
 refine HL.mono ?_
 rintro e w8 ⟨u8, rfl, ho8, hb8⟩
 obtain ⟨A, cap, rfl, _⟩ := own_form ho8
 clear ho8
 have HB8 := Lib.hid (HB7.out.trans (hb8.mono HB7.out.size))
 clear hb8 HL HK7 HB7
 go_wp2
 go_ret
 exact ⟨rfl, HB8.out⟩
end Go.Proofs.YtnpkplegeddhcaaGreat
