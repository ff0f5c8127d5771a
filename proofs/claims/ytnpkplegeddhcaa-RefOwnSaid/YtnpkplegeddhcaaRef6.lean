/-
  Package ref as contracts: all records, in the order of their names: Parties, Assets.
  Conditions: the caller's memory stays.
-/
import Derived.Test.YtnpkplegeddhcaaRef5
import Derived.Test.YtnpkplegeddhcaaRef4S
import Derived.Test.YtnpkplegeddhcaaMemLst
namespace Go.Proofs.Ytnpkplegeddhcaa
open Go.RowKit Go.Maps Go.Shelf Go.Sort

theorem sortsT (m : Nat) : AnyZ.SortsIn Try.prog Try.sortedA_ren Fence.wide m :=
  ⟨fun blk off cap ss W hH hblk hsz => callsIn_wide.2 (AnyM.slices_Sort_string Try.sortA blk off cap ss W hH hblk hsz),
   fun p cap W => callsIn_wide.2 (AnyM.slices_Sort_string_none Try.sortA p cap W)⟩
theorem reads_ownedT {w : World} {base n : Nat} {v : Value} {xs : List Value} (h : w.ownsRow base 9 1 v n xs) : ∃ A cap, v = .slice A n cap ∧ Reads w w.heap.size 1 A n xs ∧ ∀ ad, A = some ad → base ≤ ad.block ∧ ad.block < w.heap.size := by
  rcases h.2 with ⟨rfl, hx⟩ | ⟨g, cap, cur, rfl, hb, hh, _⟩
  · subst hx
    have hx1 : xs = [] := List.eq_nil_of_length_eq_zero (by have := h.1; omega)
    subst hx1
    exact ⟨none, 0, rfl, Reads.none_, by simp⟩
  · exact ⟨_, _, rfl, Reads.of_own h, fun ad e => by injection e with e; subst e; exact ⟨hb, Blk.lt (t := 9) hh⟩⟩
theorem encs (l : List (List UInt8)) : l.map encStr = strs (l.map fun x => ⟨x.toArray⟩) := by
  unfold strs
  rw [List.map_map]
  rfl
theorem own_key {α : Type} [Kd α] {w : World} {b n : Nat} {D : DataW Unit} (h : w.ownsMap Try.prog 9 (Kd.E α) b n D) {s : ByteArray} (hh : hasS D s = true) : s.size ≤ 9223372036854775807 := by
  obtain ⟨es, clock, _, F, _, rfl⟩ := h
  unfold hasS at hh
  rw [has_eq, List.any_eq_true] at hh
  obtain ⟨p, hp, hps⟩ := hh
  obtain ⟨v, hv⟩ := fit_keys F p (mem_sorted.1 hp)
  rw [WideAt.sameKey_eq hps] at hv
  cases v <;> simp [keyOf, Try.underlying9, mapKey, kS] at hv
  obtain ⟨h1, h2⟩ := hv
  unfold maxLen at h1
  have e := congrArg Array.size h2
  have e2 : ∀ x : ByteArray, x.data.size = x.size := fun _ => rfl
  rw [e2, e2] at e
  omega
theorem names_of {D : DataW Unit} {ss : List (List UInt8)} (hp : ss.Perm (strKeys D)) : ss.length = (lstS D).length ∧ (ss.mergeSort (fun x y => decide (x ≤ y))).map encStr = strs (lstS D) := by
  have hsort : ss.mergeSort (fun x y => decide (x ≤ y)) = (strKeys D).mergeSort leB := mergeSort_of_perm hp
  refine ⟨by rw [hp.length_eq]; unfold lstS; rw [List.length_map, List.length_mergeSort], ?_⟩
  rw [hsort, encs]
  rfl
/-- A row of cells in a new block. -/
theorem reads_newN (w : World) (xs : List Value) (t : TypeId) (cs : Array Value) (hcs : cs.toList = xs) {N : Nat} (hn : xs.length = N) : Reads (w.alloc (.cells cs t)) (w.heap.size + 1) N (some ⟨w.heap.size, 0, none⟩) 1 xs := by
  subst hn
  refine ⟨by omega, fun _ => ⟨_, rfl, Nat.lt_succ_self _, fun j u hu => ?_⟩⟩
  have h : (w.alloc (.cells cs t)).heap[w.heap.size]? = some (.cells cs t (0, 0)) := heap_alloc_new w _
  have e : ((⟨w.heap.size, 0, none⟩ : Addr).add j) = ⟨w.heap.size, j, none⟩ := by
    unfold Addr.add; split
    · rename_i h; subst h; rfl
    · simp
  rw [e]
  simp only [World.cell?, h]
  rw [← hcs] at hu
  simpa using hu
section
variable {α : Type} [Kd α]
/-- All records, in their names' order. -/
def rowsOf (α : Type) [Kd α] (D : DataW Unit) : List α := (lstS D).map (recAt α D)
def cellsOf (l : List α) : List Value := l.flatMap fun x => (Kd.val x).cells.toList
theorem cellsOf_snoc (l : List α) (x : α) : cellsOf (l ++ [x]) = cellsOf l ++ (Kd.val x).cells.toList := by simp [cellsOf]
theorem cells_at {N : Nat} : ∀ {l : List α}, (∀ x ∈ l, (Kd.val x).cells.size = N) → ∀ {k : Nat} {x : α}, l[k]? = some x → ∀ {j : Nat} {v : Value}, (Kd.val x).cells[j]? = some v → (cellsOf l)[k * N + j]? = some v
  | [], _, k, x, h, _, _, _ => by simp at h
  | y :: l, hN, k, x, h, j, v, hv => by
    have hy : (Kd.val y).cells.toList.length = N := by rw [Array.length_toList]; exact hN y (by simp)
    rw [← Array.getElem?_toList] at hv
    have e : cellsOf (y :: l) = (Kd.val y).cells.toList ++ cellsOf l := rfl
    rw [e]
    cases k with
    | zero =>
      simp at h
      subst h
      rw [Nat.zero_mul, Nat.zero_add, List.getElem?_append_left (List.getElem?_eq_some_iff.1 hv).1]
      exact hv
    | succ k =>
      simp only [List.getElem?_cons_succ] at h
      rw [List.getElem?_append_right (by rw [hy, Nat.succ_mul]; omega), hy, show (k + 1) * N + j - N = k * N + j by rw [Nat.succ_mul]; omega]
      exact cells_at (fun x hx => hN x (by simp [hx])) h (by rw [← Array.getElem?_toList]; exact hv)
theorem rows_own {w : World} {base N : Nat} {e : TypeId} {v : Value} {l : List α} (h : w.ownsRow base e N v l.length (cellsOf l)) (hN : ∀ x ∈ l, (Kd.val x).cells.size = N) : ∃ A cap, v = .slice A l.length cap ∧ RowsAt w w.heap.size A N l := by
  rcases h.2 with ⟨rfl, hx⟩ | ⟨g, cap, cur, rfl, hb, hh, _⟩
  · exact ⟨none, 0, by rw [hx], ⟨fun hn => by omega⟩⟩
  · have hr := Reads.of_own h
    refine ⟨_, _, rfl, ⟨fun hn => ?_⟩⟩
    obtain ⟨ad, e1, hlt, hc⟩ := hr.2 hn
    refine ⟨ad, e1, hlt, fun k x hx j u hu => ?_⟩
    rw [add_of_add]
    exact hc _ u (cells_at hN hx hu)
theorem info_all {T : TypeId} {N B : Nat} (h : (Try.prog.info? T).map (fun i => (i.zero.map (·.cells.size), i.size, i.bytes)) = some (some N, N, B)) : ∃ i z, Try.prog.info? T = some i ∧ i.zero = some z ∧ i.size = N ∧ i.bytes = B ∧ z.cells.size = N := by
  cases hi : Try.prog.info? T with
  | none => rw [hi] at h; cases h
  | some i =>
    rw [hi] at h
    simp only [Option.map_some, Option.some.injEq, Prod.mk.injEq, Option.map_eq_some_iff] at h
    obtain ⟨⟨z, h1, h2⟩, h3, h4⟩ := h
    exact ⟨i, z, rfl, h1, h3, h4, h2⟩
end

theorem infoAllP : (Try.prog.info? 37).map (fun i => (i.zero.map (·.cells.size), i.size, i.bytes)) = some (some 2, 2, 24) := by kernel_rfl
theorem keysP_all (mb : Option Nat) (W : World) : Calls Try.prog 54 #[.map mb] W fun e w' => e = .returned (.func (.func 66) #[] #[.pointer (some ⟨W.heap.size, 0, none⟩)]) ∧ w' = W.alloc (.cells #[.map mb] 57) :=
  callsIn_wide.1 (AnyZ.keys_in Try.keysP Fence.wide 5 trivial rfl mb W)
theorem namesP_any (v : Value) (D : DataW Unit) (w : World) (hm : MapAt Party v D w) (hmax : Maps.size D ≤ 1000000) :
    Calls Try.prog 50 #[.func (.func 66) #[] #[.pointer (some ⟨w.heap.size, 0, none⟩)]] (w.alloc (.cells #[v] 57)) fun e w' =>
      ∃ (A : Option Addr) (cap : Nat), e = .returned (.slice A (lstS D).length cap) ∧ Reads w' w'.heap.size 1 A (lstS D).length (strs (lstS D)) ∧ (∀ ad, A = some ad → w.heap.size ≤ ad.block) ∧ Below w.heap.size w w' := by
  have hgoal : ∀ (Q : List (List UInt8) → Prop) (n0 : Nat), n0 ≤ 1000000 → (∀ ss, Q ss → ss.Perm (strKeys D)) →
      SeqGives Fence.wide 2 Try.prog 66 #[.pointer (some ⟨w.heap.size, 0, none⟩)] encStr Q n0 (w.alloc (.cells #[v] 57)) →
      Calls Try.prog 50 #[.func (.func 66) #[] #[.pointer (some ⟨w.heap.size, 0, none⟩)]] (w.alloc (.cells #[v] 57)) fun e w' =>
      ∃ (A : Option Addr) (cap : Nat), e = .returned (.slice A (lstS D).length cap) ∧ Reads w' w'.heap.size 1 A (lstS D).length (strs (lstS D)) ∧ (∀ ad, A = some ad → w.heap.size ≤ ad.block) ∧ Below w.heap.size w w' := by
    intro Q n0 hn0 hQ hseq
    have cS := AnyZ.sorted_in Try.sortedA Fence.wide 5 trivial trivial trivial trivial rfl (by omega) (sortsT _) (enters_of Try.func64 (by kernel_rfl) rfl) 66 #[.pointer (some ⟨w.heap.size, 0, none⟩)] trivial (enters_of Try.func66 (by kernel_rfl) rfl) _ _ (by unfold maxLen; omega) (by omega) _ hseq
    refine (callsIn_wide.1 cS).mono ?_
    rw [World.size_alloc]
    rintro e w2 ⟨v2, ss, rfl, hp, hown, _, hb2⟩
    obtain ⟨hln, hst⟩ := names_of (hQ ss hp)
    rw [hln, hst] at hown
    obtain ⟨A, cap, rfl, hrd, hbk⟩ := reads_ownedT hown
    exact ⟨A, cap, rfl, hrd, fun ad e => by have := (hbk ad e).1; omega, ((Below.refl w.heap.size w).alloc (Nat.le_refl _) _).trans (hb2.mono (by omega))⟩
  rcases hm with ⟨rfl, rfl⟩ | ⟨b, rfl, hown⟩
  · exact hgoal _ 0 (by omega) (fun ss h => by subst h; exact List.Perm.refl _) (AnyZ.keys_gives_nil (ρ := Try.keysP_ren) { Try.keysP with } Fence.wide _ trivial rfl w.heap.size _ (by simp) (by simp))
  · have hbl := hown.lt
    exact hgoal _ _ hmax (fun ss h => h) (AnyZ.keys_gives (ρ := Try.keysP_ren) { Try.keysP with } Fence.wide _ trivial rfl (by omega) w.heap.size b _ D _ (by simp) (by simp) (by
      obtain ⟨es, clock, hb, Ft, hs, hD⟩ := hown
      exact ⟨es, clock, (Below.heap_alloc _ _ b hbl).trans hb, Ft, hs, hD⟩))
set_option maxHeartbeats 4000000 in
set_option maxRecDepth 10000 in
theorem sortedP_any (v : Value) (D : DataW Unit) (hg : GoodR Party D) (hD : Maps.size D ≤ 20) (w : World) (hm : MapAt Party v D w) :
    Calls Try.prog 41 #[v] w fun e w' => ∃ (A : Option Addr) (cap : Nat), e = .returned (.slice A (rowsOf Party D).length cap) ∧ RowsAt w' w'.heap.size A 2 (rowsOf Party D) ∧ Below w.heap.size w w' := by
  obtain ⟨i0, z0, hi, hz0, hz1, hz2, hz3⟩ := info_all infoAllP
  have hvs : ∃ mb, v = .map mb := hm.elim (fun h => ⟨_, h.1⟩) (fun ⟨b, h, _⟩ => ⟨_, h⟩)
  obtain ⟨mb, rfl⟩ := hvs
  have HN := Lib.hid (namesP_any (.map mb) D w hm (by omega))
  obtain ⟨n, hn⟩ : ∃ n, (lstS D).length = n := ⟨_, rfl⟩
  have hn20 : n ≤ 20 := by rw [← hn, lstS_len hg.keys]; exact hD
  have Hn := Lib.hid hn
  have HMP := Lib.hid hm
  have HG := Lib.hid hg
  clear hm hg
  go_enter Try.func41, Try.ntmps41
  go_wp2_with fail
  refine (keysP_all _ _).mono ?_
  rintro e w1 ⟨rfl, rfl⟩
  go_wp2_with fail
  refine HN.out.mono ?_
  rintro e w2 ⟨A, cap, rfl, hrd, hab, hb2⟩
  rw [hn] at hrd ⊢
  have HR := Lib.hid hrd
  have HB2 := Lib.hid hb2
  have HM2 := Lib.hid (HMP.out.below hb2)
  clear hrd hb2 HN hn hab
  go_wp2
  go_loopw [3, 10] (fun u i wr => ∃ k : Nat, k ≤ n ∧ i = .int .i64 k ∧ Hid (wr.ownsRow w2.heap.size 37 2 u k (cellsOf ((rowsOf Party D).take k))) ∧ Hid (Below w2.heap.size w2 wr)) (fun _ i _ => n - (intOf i).toNat)
  case atStart => exact ⟨0, Nat.zero_le _, rfl, ⟨rfl, .inl ⟨rfl, rfl⟩⟩, Below.refl _ _⟩
  case round =>
    obtain ⟨k, hk, rfl, HO, HB⟩ := hrel
    by_cases hlt : k < n
    · obtain ⟨ad, s, rfl, hab, hsk, hcs⟩ := str_at (HR.out.below HB.out) hlt
      obtain ⟨b, hmb, hown⟩ : ∃ b, mb = some b ∧ w2.ownsMap Try.prog 9 (Kd.E Party) b (Maps.size D) D := by
        rcases HM2.out with ⟨_, h⟩ | ⟨b, h, h2⟩
        · rw [h] at Hn
          have := Hn.out
          have h0 : (lstS (.map [] : DataW Unit)).length = 0 := by rw [lstS_len goodS_none]; rfl
          omega
        · injection h with h
          exact ⟨b, h, h2⟩
      subst hmb
      have hsz : s.size ≤ 9223372036854775807 := own_key hown ((mem_lstS HG.out.keys s).1 (List.mem_of_getElem? hsk))
      have hlk0 := run_look (α := Party) Try.underlying57 (zeroP wr) (own_keep hown (HB.out.block b hown.lt)) HG.out hsz
      obtain ⟨y, hy⟩ : ∃ y, recAt Party D s = y := ⟨_, rfl⟩
      rw [hy] at hlk0
      have hlk : (Instr.lookup 57 (.map (some b)) (.string s) false).run Try.prog wr = .ok (.agg #[.string y.name, .int .i64 y.limit]) wr := hlk0
      have hyk : (rowsOf Party D)[k]? = some y := by unfold rowsOf; rw [List.getElem?_map, hsk, ← hy]; rfl
      have HY : Hid (cellsOf ((rowsOf Party D).take (k + 1)) = cellsOf ((rowsOf Party D).take k) ++ [.string y.name, .int .i64 y.limit]) := by
        show _ = _
        rw [take_snoc hyk, cellsOf_snoc]
        rfl
      have hown3 := HO.out
      have hzw := HB.out.size
      clear hlk0 hsk hown hy hyk hsz hab
      go_wp2_with (at_builtin; refine wpList_append_any _ rfl _ _ 33 rfl w2.heap.size 37 i0 z0 2 24 Try.underlying33 hi hz0 hz1 hz2 hz3 (by decide) _ _ _ rfl (hown3.alloc _) (wr.heap.size + 1) (some ⟨wr.heap.size, 0, none⟩) 1 1 [.string y.name, .int .i64 y.limit] rfl ?c1 ?c2 ?c3 ?c4 ?c5 ?_)
      case c1 => exact reads_newN wr _ _ _ rfl rfl
      case c2 => simp [Value.oneCell']
      case c3 => unfold maxLen; omega
      case c4 => omega
      case c5 => simp; omega
      intro v3 w3 hown4 hgrow4 hlink4
      have HO4 : Hid (w3.ownsRow w2.heap.size 37 2 v3 (k + 1) (cellsOf ((rowsOf Party D).take (k + 1)))) := by show World.ownsRow _ _ _ _ _ _ _; rw [HY.out]; exact hown4
      have HB4 := Lib.hid ((HB.out.alloc hzw (.cells #[.string y.name, .int .i64 y.limit] 37)).grown hgrow4 (by simp; omega) (fun j hj => (hown3.lt j hj).1))
      clear hown4 hgrow4 hlink4 hown3 hlk hcs
      go_wp2
      go_roundw
      case rel => exact ⟨k + 1, hlt, by go_num, HO4.out, HB4.out⟩
      case measure => simp [intOf]; omega
    · obtain rfl : k = n := by omega
      have hl : (rowsOf Party D).length = k := by unfold rowsOf; rw [List.length_map]; exact Hn.out
      have ho := HO.out
      rw [List.take_of_length_le (by rw [hl]; exact Nat.le_refl _), ← hl] at ho
      obtain ⟨A2, cap2, rfl, hrow⟩ := rows_own ho (fun x _ => rfl)
      have HRW := Lib.hid hrow
      clear ho hrow HO
      go_wp2
      go_ret
      exact ⟨A2, cap2, rfl, HRW.out, HB2.out.trans (HB.out.mono HB2.out.size)⟩
set_option maxHeartbeats 1000000 in
theorem allP_any (r : Nat) (st : Rf) (hok : st.Ok) (w : World) (h : RefAt r st w) :
    Calls Try.prog 14 #[.pointer (some ⟨r, 0, none⟩)] w fun e w' => ∃ (A : Option Addr) (cap : Nat), e = .returned (.slice A (rowsOf Party st.p).length cap) ∧ RowsAt w' w'.heap.size A 2 (rowsOf Party st.p) ∧ Below w.heap.size w w' := by
  obtain ⟨v, hcell, hm⟩ : ∃ v, w.cell? ⟨r, 1, none⟩ = some v ∧ MapAt Party v st.p w := (fun ⟨b, h1, h2, _⟩ => ⟨_, h1, .inr ⟨b, rfl, h2⟩⟩) h.ownP
  have HS := Lib.hid (sortedP_any v st.p hok.gp (by have := hok.np; omega) w hm)
  have hvs : ∃ mb, v = .map mb := hm.elim (fun h => ⟨_, h.1⟩) (fun ⟨b, h, _⟩ => ⟨_, h⟩)
  obtain ⟨mb, rfl⟩ := hvs
  clear hm hok h
  go_enter Try.func14, Try.ntmps14
  go_wp2_with fail
  refine HS.out.mono ?_
  rintro e w1 ⟨A, cap, rfl, hrow, hb⟩
  have HR := Lib.hid hrow
  have HB := Lib.hid hb
  clear hrow hb HS
  go_wp2
  go_ret
  exact ⟨A, cap, rfl, HR.out, HB.out⟩

theorem infoAllS : (Try.prog.info? 29).map (fun i => (i.zero.map (·.cells.size), i.size, i.bytes)) = some (some 8, 8, 64) := by kernel_rfl
theorem keysS_all (mb : Option Nat) (W : World) : Calls Try.prog 51 #[.map mb] W fun e w' => e = .returned (.func (.func 65) #[] #[.pointer (some ⟨W.heap.size, 0, none⟩)]) ∧ w' = W.alloc (.cells #[.map mb] 59) :=
  callsIn_wide.1 (AnyZ.keys_in Try.keysS Fence.wide 5 trivial rfl mb W)
theorem namesS_any (v : Value) (D : DataW Unit) (w : World) (hm : MapAt Asset v D w) (hmax : Maps.size D ≤ 1000000) :
    Calls Try.prog 50 #[.func (.func 65) #[] #[.pointer (some ⟨w.heap.size, 0, none⟩)]] (w.alloc (.cells #[v] 59)) fun e w' =>
      ∃ (A : Option Addr) (cap : Nat), e = .returned (.slice A (lstS D).length cap) ∧ Reads w' w'.heap.size 1 A (lstS D).length (strs (lstS D)) ∧ (∀ ad, A = some ad → w.heap.size ≤ ad.block) ∧ Below w.heap.size w w' := by
  have hgoal : ∀ (Q : List (List UInt8) → Prop) (n0 : Nat), n0 ≤ 1000000 → (∀ ss, Q ss → ss.Perm (strKeys D)) →
      SeqGives Fence.wide 2 Try.prog 65 #[.pointer (some ⟨w.heap.size, 0, none⟩)] encStr Q n0 (w.alloc (.cells #[v] 59)) →
      Calls Try.prog 50 #[.func (.func 65) #[] #[.pointer (some ⟨w.heap.size, 0, none⟩)]] (w.alloc (.cells #[v] 59)) fun e w' =>
      ∃ (A : Option Addr) (cap : Nat), e = .returned (.slice A (lstS D).length cap) ∧ Reads w' w'.heap.size 1 A (lstS D).length (strs (lstS D)) ∧ (∀ ad, A = some ad → w.heap.size ≤ ad.block) ∧ Below w.heap.size w w' := by
    intro Q n0 hn0 hQ hseq
    have cS := AnyZ.sorted_in Try.sortedA Fence.wide 5 trivial trivial trivial trivial rfl (by omega) (sortsT _) (enters_of Try.func64 (by kernel_rfl) rfl) 65 #[.pointer (some ⟨w.heap.size, 0, none⟩)] trivial (enters_of Try.func65 (by kernel_rfl) rfl) _ _ (by unfold maxLen; omega) (by omega) _ hseq
    refine (callsIn_wide.1 cS).mono ?_
    rw [World.size_alloc]
    rintro e w2 ⟨v2, ss, rfl, hp, hown, _, hb2⟩
    obtain ⟨hln, hst⟩ := names_of (hQ ss hp)
    rw [hln, hst] at hown
    obtain ⟨A, cap, rfl, hrd, hbk⟩ := reads_ownedT hown
    exact ⟨A, cap, rfl, hrd, fun ad e => by have := (hbk ad e).1; omega, ((Below.refl w.heap.size w).alloc (Nat.le_refl _) _).trans (hb2.mono (by omega))⟩
  rcases hm with ⟨rfl, rfl⟩ | ⟨b, rfl, hown⟩
  · exact hgoal _ 0 (by omega) (fun ss h => by subst h; exact List.Perm.refl _) (AnyZ.keys_gives_nil (ρ := Try.keysS_ren) { Try.keysS with } Fence.wide _ trivial rfl w.heap.size _ (by simp) (by simp))
  · have hbl := hown.lt
    exact hgoal _ _ hmax (fun ss h => h) (AnyZ.keys_gives (ρ := Try.keysS_ren) { Try.keysS with } Fence.wide _ trivial rfl (by omega) w.heap.size b _ D _ (by simp) (by simp) (by
      obtain ⟨es, clock, hb, Ft, hs, hD⟩ := hown
      exact ⟨es, clock, (Below.heap_alloc _ _ b hbl).trans hb, Ft, hs, hD⟩))
set_option maxHeartbeats 4000000 in
set_option maxRecDepth 10000 in
theorem sortedS_any (v : Value) (D : DataW Unit) (hg : GoodR Asset D) (hD : Maps.size D ≤ 20) (w : World) (hm : MapAt Asset v D w) :
    Calls Try.prog 31 #[v] w fun e w' => ∃ (A : Option Addr) (cap : Nat), e = .returned (.slice A (rowsOf Asset D).length cap) ∧ RowsAt w' w'.heap.size A 8 (rowsOf Asset D) ∧ Below w.heap.size w w' := by
  obtain ⟨i0, z0, hi, hz0, hz1, hz2, hz3⟩ := info_all infoAllS
  have hvs : ∃ mb, v = .map mb := hm.elim (fun h => ⟨_, h.1⟩) (fun ⟨b, h, _⟩ => ⟨_, h⟩)
  obtain ⟨mb, rfl⟩ := hvs
  have HN := Lib.hid (namesS_any (.map mb) D w hm (by omega))
  obtain ⟨n, hn⟩ : ∃ n, (lstS D).length = n := ⟨_, rfl⟩
  have hn20 : n ≤ 20 := by rw [← hn, lstS_len hg.keys]; exact hD
  have Hn := Lib.hid hn
  have HMP := Lib.hid hm
  have HG := Lib.hid hg
  clear hm hg
  go_enter Try.func31, Try.ntmps31
  go_wp2_with fail
  refine (keysS_all _ _).mono ?_
  rintro e w1 ⟨rfl, rfl⟩
  go_wp2_with fail
  refine HN.out.mono ?_
  rintro e w2 ⟨A, cap, rfl, hrd, hab, hb2⟩
  rw [hn] at hrd ⊢
  have HR := Lib.hid hrd
  have HB2 := Lib.hid hb2
  have HM2 := Lib.hid (HMP.out.below hb2)
  clear hrd hb2 HN hn hab
  go_wp2
  go_loopw [3, 10] (fun u i wr => ∃ k : Nat, k ≤ n ∧ i = .int .i64 k ∧ Hid (wr.ownsRow w2.heap.size 29 8 u k (cellsOf ((rowsOf Asset D).take k))) ∧ Hid (Below w2.heap.size w2 wr)) (fun _ i _ => n - (intOf i).toNat)
  case atStart => exact ⟨0, Nat.zero_le _, rfl, ⟨rfl, .inl ⟨rfl, rfl⟩⟩, Below.refl _ _⟩
  case round =>
    obtain ⟨k, hk, rfl, HO, HB⟩ := hrel
    by_cases hlt : k < n
    · obtain ⟨ad, s, rfl, hab, hsk, hcs⟩ := str_at (HR.out.below HB.out) hlt
      obtain ⟨b, hmb, hown⟩ : ∃ b, mb = some b ∧ w2.ownsMap Try.prog 9 (Kd.E Asset) b (Maps.size D) D := by
        rcases HM2.out with ⟨_, h⟩ | ⟨b, h, h2⟩
        · rw [h] at Hn
          have := Hn.out
          have h0 : (lstS (.map [] : DataW Unit)).length = 0 := by rw [lstS_len goodS_none]; rfl
          omega
        · injection h with h
          exact ⟨b, h, h2⟩
      subst hmb
      have hsz : s.size ≤ 9223372036854775807 := own_key hown ((mem_lstS HG.out.keys s).1 (List.mem_of_getElem? hsk))
      have hlk0 := run_look (α := Asset) Try.underlying59 (zeroS wr) (own_keep hown (HB.out.block b hown.lt)) HG.out hsz
      obtain ⟨y, hy⟩ : ∃ y, recAt Asset D s = y := ⟨_, rfl⟩
      rw [hy] at hlk0
      have hlk : (Instr.lookup 59 (.map (some b)) (.string s) false).run Try.prog wr = .ok (.agg #[.string y.name, .bool y.cash, .bool y.pledge, .int .i64 y.unit, .int .i64 y.least, .int .i64 y.price, .int .i64 y.cut, .int .i64 y.close]) wr := hlk0
      have hyk : (rowsOf Asset D)[k]? = some y := by unfold rowsOf; rw [List.getElem?_map, hsk, ← hy]; rfl
      have HY : Hid (cellsOf ((rowsOf Asset D).take (k + 1)) = cellsOf ((rowsOf Asset D).take k) ++ [.string y.name, .bool y.cash, .bool y.pledge, .int .i64 y.unit, .int .i64 y.least, .int .i64 y.price, .int .i64 y.cut, .int .i64 y.close]) := by
        show _ = _
        rw [take_snoc hyk, cellsOf_snoc]
        rfl
      have hown3 := HO.out
      have hzw := HB.out.size
      clear hlk0 hsk hown hy hyk hsz hab
      go_wp2_with (at_builtin; refine wpList_append_any _ rfl _ _ 22 rfl w2.heap.size 29 i0 z0 8 64 Try.underlying22 hi hz0 hz1 hz2 hz3 (by decide) _ _ _ rfl (hown3.alloc _) (wr.heap.size + 1) (some ⟨wr.heap.size, 0, none⟩) 1 1 [.string y.name, .bool y.cash, .bool y.pledge, .int .i64 y.unit, .int .i64 y.least, .int .i64 y.price, .int .i64 y.cut, .int .i64 y.close] rfl ?c1 ?c2 ?c3 ?c4 ?c5 ?_)
      case c1 => exact reads_newN wr _ _ _ rfl rfl
      case c2 => simp [Value.oneCell']
      case c3 => unfold maxLen; omega
      case c4 => omega
      case c5 => simp; omega
      intro v3 w3 hown4 hgrow4 hlink4
      have HO4 : Hid (w3.ownsRow w2.heap.size 29 8 v3 (k + 1) (cellsOf ((rowsOf Asset D).take (k + 1)))) := by show World.ownsRow _ _ _ _ _ _ _; rw [HY.out]; exact hown4
      have HB4 := Lib.hid ((HB.out.alloc hzw (.cells #[.string y.name, .bool y.cash, .bool y.pledge, .int .i64 y.unit, .int .i64 y.least, .int .i64 y.price, .int .i64 y.cut, .int .i64 y.close] 29)).grown hgrow4 (by simp; omega) (fun j hj => (hown3.lt j hj).1))
      clear hown4 hgrow4 hlink4 hown3 hlk hcs
      go_wp2
      go_roundw
      case rel => exact ⟨k + 1, hlt, by go_num, HO4.out, HB4.out⟩
      case measure => simp [intOf]; omega
    · obtain rfl : k = n := by omega
      have hl : (rowsOf Asset D).length = k := by unfold rowsOf; rw [List.length_map]; exact Hn.out
      have ho := HO.out
      rw [List.take_of_length_le (by rw [hl]; exact Nat.le_refl _), ← hl] at ho
      obtain ⟨A2, cap2, rfl, hrow⟩ := rows_own ho (fun x _ => rfl)
      have HRW := Lib.hid hrow
      clear ho hrow HO
      go_wp2
      go_ret
      exact ⟨A2, cap2, rfl, HRW.out, HB2.out.trans (HB.out.mono HB2.out.size)⟩
set_option maxHeartbeats 1000000 in
theorem allS_any (r : Nat) (st : Rf) (hok : st.Ok) (w : World) (h : RefAt r st w) :
    Calls Try.prog 10 #[.pointer (some ⟨r, 0, none⟩)] w fun e w' => ∃ (A : Option Addr) (cap : Nat), e = .returned (.slice A (rowsOf Asset st.s).length cap) ∧ RowsAt w' w'.heap.size A 8 (rowsOf Asset st.s) ∧ Below w.heap.size w w' := by
  obtain ⟨v, hcell, hm⟩ : ∃ v, w.cell? ⟨r, 3, none⟩ = some v ∧ MapAt Asset v st.s w := h.mapS
  have HS := Lib.hid (sortedS_any v st.s hok.gs (by have := hok.ns; omega) w hm)
  have hvs : ∃ mb, v = .map mb := hm.elim (fun h => ⟨_, h.1⟩) (fun ⟨b, h, _⟩ => ⟨_, h⟩)
  obtain ⟨mb, rfl⟩ := hvs
  clear hm hok h
  go_enter Try.func10, Try.ntmps10
  go_wp2_with fail
  refine HS.out.mono ?_
  rintro e w1 ⟨A, cap, rfl, hrow, hb⟩
  have HR := Lib.hid hrow
  have HB := Lib.hid hb
  clear hrow hb HS
  go_wp2
  go_ret
  exact ⟨A, cap, rfl, HR.out, HB.out⟩
end Go.Proofs.Ytnpkplegeddhcaa
