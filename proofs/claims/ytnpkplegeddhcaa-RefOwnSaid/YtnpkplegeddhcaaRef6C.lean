/-
  Package ref as contracts: all accounts, in the order of their names, in a row of their own.
  Conditions: the caller's memory stays.
-/
import Derived.Test.YtnpkplegeddhcaaRef6
namespace Go.Proofs.Ytnpkplegeddhcaa
open Go.RowKit Go.Maps Go.Shelf Go.Sort

theorem own_low {w : World} {b b' N n : Nat} {e : TypeId} {v : Value} {xs : List Value} (h : w.ownsRow b e N v n xs) (hb : b' ≤ b) : w.ownsRow b' e N v n xs := by
  obtain ⟨h1, h2⟩ := h
  refine ⟨h1, h2.imp id ?_⟩
  rintro ⟨g, cap, cur, h3, h4, h5⟩
  exact ⟨g, cap, cur, h3, Nat.le_trans hb h4, h5⟩
theorem infoAllC : (Try.prog.info? 40).map (fun i => (i.zero.map (·.cells.size), i.size, i.bytes)) = some (some 2, 2, 32) := by kernel_rfl
theorem keysC_all (mb : Option Nat) (W : World) : Calls Try.prog 56 #[.map mb] W fun e w' => e = .returned (.func (.func 67) #[] #[.pointer (some ⟨W.heap.size, 0, none⟩)]) ∧ w' = W.alloc (.cells #[.map mb] 58) :=
  callsIn_wide.1 (AnyZ.keys_in Try.keysC Fence.wide 5 trivial rfl mb W)
theorem namesC_any (v : Value) (D : DataW Unit) (w : World) (hm : MapAt Account v D w) (hmax : Maps.size D ≤ 1000000) :
    Calls Try.prog 50 #[.func (.func 67) #[] #[.pointer (some ⟨w.heap.size, 0, none⟩)]] (w.alloc (.cells #[v] 58)) fun e w' =>
      ∃ (A : Option Addr) (cap : Nat), e = .returned (.slice A (lstS D).length cap) ∧ Reads w' w'.heap.size 1 A (lstS D).length (strs (lstS D)) ∧ (∀ ad, A = some ad → w.heap.size ≤ ad.block) ∧ Below w.heap.size w w' := by
  have hgoal : ∀ (Q : List (List UInt8) → Prop) (n0 : Nat), n0 ≤ 1000000 → (∀ ss, Q ss → ss.Perm (strKeys D)) →
      SeqGives Fence.wide 2 Try.prog 67 #[.pointer (some ⟨w.heap.size, 0, none⟩)] encStr Q n0 (w.alloc (.cells #[v] 58)) →
      Calls Try.prog 50 #[.func (.func 67) #[] #[.pointer (some ⟨w.heap.size, 0, none⟩)]] (w.alloc (.cells #[v] 58)) fun e w' =>
      ∃ (A : Option Addr) (cap : Nat), e = .returned (.slice A (lstS D).length cap) ∧ Reads w' w'.heap.size 1 A (lstS D).length (strs (lstS D)) ∧ (∀ ad, A = some ad → w.heap.size ≤ ad.block) ∧ Below w.heap.size w w' := by
    intro Q n0 hn0 hQ hseq
    have cS := AnyZ.sorted_in Try.sortedA Fence.wide 5 trivial trivial trivial trivial rfl (by omega) (sortsT _) (enters_of Try.func64 (by kernel_rfl) rfl) 67 #[.pointer (some ⟨w.heap.size, 0, none⟩)] trivial (enters_of Try.func67 (by kernel_rfl) rfl) _ _ (by unfold maxLen; omega) (by omega) _ hseq
    refine (callsIn_wide.1 cS).mono ?_
    rw [World.size_alloc]
    rintro e w2 ⟨v2, ss, rfl, hp, hown, _, hb2⟩
    obtain ⟨hln, hst⟩ := names_of (hQ ss hp)
    rw [hln, hst] at hown
    obtain ⟨A, cap, rfl, hrd, hbk⟩ := reads_ownedT hown
    exact ⟨A, cap, rfl, hrd, fun ad e => by have := (hbk ad e).1; omega, ((Below.refl w.heap.size w).alloc (Nat.le_refl _) _).trans (hb2.mono (by omega))⟩
  rcases hm with ⟨rfl, rfl⟩ | ⟨b, rfl, hown⟩
  · exact hgoal _ 0 (by omega) (fun ss h => by subst h; exact List.Perm.refl _) (AnyZ.keys_gives_nil (ρ := Try.keysC_ren) { Try.keysC with } Fence.wide _ trivial rfl w.heap.size _ (by simp) (by simp))
  · have hbl := hown.lt
    exact hgoal _ _ hmax (fun ss h => h) (AnyZ.keys_gives (ρ := Try.keysC_ren) { Try.keysC with } Fence.wide _ trivial rfl (by omega) w.heap.size b _ D _ (by simp) (by simp) (by
      obtain ⟨es, clock, hb, Ft, hs, hD⟩ := hown
      exact ⟨es, clock, (Below.heap_alloc _ _ b hbl).trans hb, Ft, hs, hD⟩))
set_option maxHeartbeats 4000000 in
set_option maxRecDepth 10000 in
theorem sortedC_any (v : Value) (D : DataW Unit) (hg : GoodR Account D) (hD : Maps.size D ≤ 20) (w : World) (hm : MapAt Account v D w) :
    Calls Try.prog 43 #[v] w fun e w' => ∃ u, e = .returned u ∧ w'.ownsRow w.heap.size 40 2 u (rowsOf Account D).length (cellsOf (rowsOf Account D)) ∧ Below w.heap.size w w' := by
  obtain ⟨i0, z0, hi, hz0, hz1, hz2, hz3⟩ := info_all infoAllC
  have hvs : ∃ mb, v = .map mb := hm.elim (fun h => ⟨_, h.1⟩) (fun ⟨b, h, _⟩ => ⟨_, h⟩)
  obtain ⟨mb, rfl⟩ := hvs
  have HN := Lib.hid (namesC_any (.map mb) D w hm (by omega))
  obtain ⟨n, hn⟩ : ∃ n, (lstS D).length = n := ⟨_, rfl⟩
  have hn20 : n ≤ 20 := by rw [← hn, lstS_len hg.keys]; exact hD
  have Hn := Lib.hid hn
  have HMP := Lib.hid hm
  have HG := Lib.hid hg
  clear hm hg
  go_enter Try.func43, Try.ntmps43
  go_wp2_with fail
  refine (keysC_all _ _).mono ?_
  rintro e w1 ⟨rfl, rfl⟩
  go_wp2_with fail
  refine HN.out.mono ?_
  rintro e w2 ⟨A, cap, rfl, hrd, hab, hb2⟩
  rw [hn] at hrd ⊢
  have HR := Lib.hid hrd
  have HB2 := Lib.hid hb2
  have HM2 := Lib.hid (HMP.out.below hb2)
  clear hrd hb2 HN hn hab
  go_wp2
  go_loopw [3, 10] (fun u i wr => ∃ k : Nat, k ≤ n ∧ i = .int .i64 k ∧ Hid (wr.ownsRow w2.heap.size 40 2 u k (cellsOf ((rowsOf Account D).take k))) ∧ Hid (Below w2.heap.size w2 wr)) (fun _ i _ => n - (intOf i).toNat)
  case atStart => exact ⟨0, Nat.zero_le _, rfl, ⟨rfl, .inl ⟨rfl, rfl⟩⟩, Below.refl _ _⟩
  case round =>
    obtain ⟨k, hk, rfl, HO, HB⟩ := hrel
    by_cases hlt : k < n
    · obtain ⟨ad, s, rfl, hab, hsk, hcs⟩ := str_at (HR.out.below HB.out) hlt
      obtain ⟨b, hmb, hown⟩ : ∃ b, mb = some b ∧ w2.ownsMap Try.prog 9 (Kd.E Account) b (Maps.size D) D := by
        rcases HM2.out with ⟨_, h⟩ | ⟨b, h, h2⟩
        · rw [h] at Hn
          have := Hn.out
          have h0 : (lstS (.map [] : DataW Unit)).length = 0 := by rw [lstS_len goodS_none]; rfl
          omega
        · injection h with h
          exact ⟨b, h, h2⟩
      subst hmb
      have hsz : s.size ≤ 9223372036854775807 := own_key hown ((mem_lstS HG.out.keys s).1 (List.mem_of_getElem? hsk))
      have hlk0 := run_look (α := Account) Try.underlying58 (zeroC wr) (own_keep hown (HB.out.block b hown.lt)) HG.out hsz
      obtain ⟨y, hy⟩ : ∃ y, recAt Account D s = y := ⟨_, rfl⟩
      rw [hy] at hlk0
      have hlk : (Instr.lookup 58 (.map (some b)) (.string s) false).run Try.prog wr = .ok (.agg #[.string y.name, .string y.party]) wr := hlk0
      have hyk : (rowsOf Account D)[k]? = some y := by unfold rowsOf; rw [List.getElem?_map, hsk, ← hy]; rfl
      have HY : Hid (cellsOf ((rowsOf Account D).take (k + 1)) = cellsOf ((rowsOf Account D).take k) ++ [.string y.name, .string y.party]) := by
        show _ = _
        rw [take_snoc hyk, cellsOf_snoc]
        rfl
      have hown3 := HO.out
      have hzw := HB.out.size
      clear hlk0 hsk hown hy hyk hsz hab
      go_wp2_with (at_builtin; refine wpList_append_any _ rfl _ _ 34 rfl w2.heap.size 40 i0 z0 2 32 Try.underlying34 hi hz0 hz1 hz2 hz3 (by decide) _ _ _ rfl (hown3.alloc _) (wr.heap.size + 1) (some ⟨wr.heap.size, 0, none⟩) 1 1 [.string y.name, .string y.party] rfl ?c1 ?c2 ?c3 ?c4 ?c5 ?_)
      case c1 => exact reads_newN wr _ _ _ rfl rfl
      case c2 => simp [Value.oneCell']
      case c3 => unfold maxLen; omega
      case c4 => omega
      case c5 => simp; omega
      intro v3 w3 hown4 hgrow4 hlink4
      have HO4 : Hid (w3.ownsRow w2.heap.size 40 2 v3 (k + 1) (cellsOf ((rowsOf Account D).take (k + 1)))) := by show World.ownsRow _ _ _ _ _ _ _; rw [HY.out]; exact hown4
      have HB4 := Lib.hid ((HB.out.alloc hzw (.cells #[.string y.name, .string y.party] 40)).grown hgrow4 (by simp; omega) (fun j hj => (hown3.lt j hj).1))
      clear hown4 hgrow4 hlink4 hown3 hlk hcs
      go_wp2
      go_roundw
      case rel => exact ⟨k + 1, hlt, by go_num, HO4.out, HB4.out⟩
      case measure => simp [intOf]; omega
    · obtain rfl : k = n := by omega
      have hl : (rowsOf Account D).length = k := by unfold rowsOf; rw [List.length_map]; exact Hn.out
      have ho := HO.out
      rw [List.take_of_length_le (by rw [hl]; exact Nat.le_refl _), ← hl] at ho
      have hrow := own_low ho HB2.out.size
      have HRW := Lib.hid hrow
      clear ho hrow HO
      go_wp2
      go_ret
      exact ⟨_, rfl, HRW.out, HB2.out.trans (HB.out.mono HB2.out.size)⟩
end Go.Proofs.Ytnpkplegeddhcaa
