/-
 slices.DeleteFunc at accounts.
 Conditions: the function that is handed in changes nothing that lies.
-/
import Derived.Test.YtnpkplegeddhcaaGreatRef7
namespace Go.Proofs.YtnpkplegeddhcaaGreat
open Go.RowKit Go.Maps

/-- The rows of accounts in a block of their own. -/
def Rows2 (cs : Array Value) (k0 : Nat) (l : List Account) : Prop := ∀ k x, l[k]? = some x → cs[(k0 + k) * 2]? = some (.string x.name) ∧ cs[(k0 + k) * 2 + 1]? = some (.string x.party)
theorem Rows2.at_ {cs : Array Value} {k0 : Nat} {l : List Account} (h : Rows2 cs k0 l) {k : Nat} {x : Account} (hx : l[k]? = some x) : cs[(k0 + k) * 2]? = some (.string x.name) ∧ cs[(k0 + k) * 2 + 1]? = some (.string x.party) := h k x hx
theorem get_set_ne {cs : Array Value} {i j : Nat} {v : Value} (h : j ≠ i) : (cs.setIfInBounds j v)[i]? = cs[i]? := by
 rw [Array.getElem?_setIfInBounds_ne h]
theorem get_set_eq {cs : Array Value} {i : Nat} {v : Value} (h : i < cs.size) : (cs.setIfInBounds i v)[i]? = some v := by
 rw [Array.getElem?_setIfInBounds_self_of_lt h]
/-- One more row behind those that are kept. -/
theorem Rows2.keep {cs : Array Value} {l : List Account} {i : Nat} (h : Rows2 cs 0 l) (hi : l.length = i) (y : Account) (hs : i * 2 + 1 < cs.size) : Rows2 ((cs.setIfInBounds (i * 2) (.string y.name)).setIfInBounds (i * 2 + 1) (.string y.party)) 0 (l ++ [y]) := by
 intro k x hx
 rcases Nat.lt_or_ge k l.length with h1 | h1
 ·rw [List.getElem?_append_left h1] at hx
  obtain ⟨a, b⟩ := h k x hx
  rw [get_set_ne (by omega), get_set_ne (by omega), get_set_ne (by omega), get_set_ne (by omega)]
  exact ⟨a, b⟩
 ·have hk : k = l.length := by
   have := (List.getElem?_eq_some_iff.1 hx).1
   simp at this
   omega
  subst hk
  rw [List.getElem?_append_right (Nat.le_refl _), Nat.sub_self] at hx
  obtain rfl : y = x := by simpa using hx
  rw [hi, Nat.zero_add]
  exact ⟨by rw [get_set_ne (by omega), get_set_eq (by omega)], get_set_eq (by simpa using hs)⟩
theorem Rows2.tail {cs : Array Value} {l : List Account} {i j : Nat} {u v : Value} (h : Rows2 cs j l) (hi : i < j) : Rows2 ((cs.setIfInBounds (i * 2) u).setIfInBounds (i * 2 + 1) v) j l := by
 intro k x hx
 obtain ⟨a, b⟩ := h k x hx
 rw [get_set_ne (by omega), get_set_ne (by omega), get_set_ne (by omega), get_set_ne (by omega)]
 exact ⟨a, b⟩
theorem Rows2.drop {cs : Array Value} {l : List Account} {j : Nat} (h : Rows2 cs j (l.drop j)) : Rows2 cs (j + 1) (l.drop (j + 1)) := by
 intro k x hx
 have := h (k + 1) x (by rw [List.getElem?_drop] at hx ⊢; rw [show j + (k + 1) = j + 1 + k by omega]; exact hx)
 rw [show j + 1 + k = j + (k + 1) by omega]
 exact this
section
variable {cs cs' : Array Value}
theorem Rows2.same {k0 : Nat} {l : List Account} (h : Rows2 cs k0 l) (he : ∀ i, i < (k0 + l.length) * 2 → cs'[i]? = cs[i]?) : Rows2 cs' k0 l := by
 intro k x hx
 have hk := (List.getElem?_eq_some_iff.1 hx).1
 obtain ⟨a, b⟩ := h k x hx
 exact ⟨(he _ (by omega)).trans a, (he _ (by omega)).trans b⟩
end
theorem cell_add (w : World) (g k j : Nat) (cs : Array Value) (t : TypeId) (h : w.heap[g]? = some (.cells cs t (0, 0))) : w.cell? ⟨g, k * 2 + j, none⟩ = cs[k * 2 + j]? := by rw [Lib.cell_of_heap h]

/-- Is an account not of that party? -/
def delB (p : ByteArray) (x : Account) : Bool := !p.toList.isEmpty && !(x.party.toList == p.toList)
set_option maxHeartbeats 4000000 in
set_option maxRecDepth 10000 in
theorem acc1_any (q : Nat) (p : ByteArray) (x : Account) (w : World) (hq : w.cell? ⟨q, 0, none⟩ = some (.string p)) (hlt : q < w.heap.size) :
  Calls Tryz.prog 77 #[.agg #[.string x.name, .string x.party], .pointer (some ⟨q, 0, none⟩)] w fun e w' => e = .returned (.bool (delB p x)) ∧ Below w.heap.size w w' := by
 have hq2 : (w.alloc (.cells #[.string x.name, .string x.party] 88)).cell? ⟨q, 0, none⟩ = some (.string p) := (World.cell?_alloc_lt _ _ ⟨q, 0, none⟩ hlt).trans hq
 obtain ⟨name, party⟩ := x
 unfold delB
 cases he : p.toList.isEmpty
 ·go_enter Tryz.func77, Tryz.ntmps77
  go_wp2
  go_ret
  exact ⟨ret_bool (by first | rfl | simp), (Below.refl _ _).alloc (Nat.le_refl _) _⟩
 ·go_enter Tryz.func77, Tryz.ntmps77
  go_wp2
  go_ret
  exact ⟨ret_bool (by first | rfl | simp), (Below.refl _ _).alloc (Nat.le_refl _) _⟩
/-- What the function handed in does, and where. -/
def Tells (q : Nat) (del : Account → Bool) (C : World → Prop) : Prop :=
 ∀ (x : Account) (w1 : World), C w1 → Calls Tryz.prog 77 #[.agg #[.string x.name, .string x.party], .pointer (some ⟨q, 0, none⟩)] w1 fun e w2 => e = .returned (.bool (del x)) ∧ Below w1.heap.size w1 w2
set_option maxHeartbeats 4000000 in
set_option maxRecDepth 10000 in
theorem index_any (q : Nat) (del : Account → Bool) (C : World → Prop) (HT : Tells q del C) (l : List Account) (A : Option Addr) (cap : Nat) (w : World) (hr : RowsAt w w.heap.size A 2 l) (hC : ∀ w', Below w.heap.size w w' → C w') (hl : l.length ≤ 1000000) :
  Calls Tryz.prog 161 #[.slice A l.length cap, .func (.func 77) #[] #[.pointer (some ⟨q, 0, none⟩)]] w fun e w' =>
   ∃ z : Int, e = .returned (.int .i64 z) ∧ ((z = -1 ∧ ∀ x ∈ l, del x = false) ∨ ∃ (k : Nat) (x : Account), z = k ∧ l[k]? = some x ∧ del x = true ∧ ∀ y ∈ l.take k, del y = false) ∧ Below w.heap.size w w' := by
 obtain ⟨n, hn⟩ : ∃ n, l.length = n := ⟨_, rfl⟩
 rw [hn] at hl ⊢
 have Hn := Lib.hid hn
 have HR := Lib.hid hr
 have HCC := Lib.hid hC
 have HTT := Lib.hid HT
 clear hn hr hC HT
 go_enter Tryz.func161, Tryz.ntmps161
 go_wp2
 go_loopw [8] (fun i wr => ∃ k : Nat, k ≤ n ∧ i = .int .i64 k ∧ Hid (∀ y ∈ l.take k, del y = false) ∧ Hid (Below w.heap.size w wr)) (fun i _ => n - (intOf i).toNat)
 case atStart => exact ⟨0, Nat.zero_le _, rfl, fun y h => by simp at h, Below.refl _ _⟩
 case round =>
  obtain ⟨k, hk, rfl, HN, HB⟩ := hrel
  by_cases hlt : k < n
  ·obtain ⟨ad, x, rfl, hab, hxk, hxm, hc⟩ := (HR.out).at_ (show k < l.length by rw [Hn.out]; exact hlt)
   have hc' : ∀ j v, (Kd.val x).cells[j]? = some v → wr.cell? ((ad.add (k * 2)).add j) = some v := fun j v hj => (HB.out.cell (by rw [block_of_add, block_of_add]; exact hab)).trans (hc j v hj)
   have e0 : wr.cell? (ad.add (k * 2)) = some (.string x.name) := by have h := hc' 0 _ rfl; rw [show (ad.add (k * 2)).add 0 = ad.add (k * 2) from by rw [add_of_add]; rfl] at h; exact h
   have e1 : wr.cell? ⟨(ad.add (k * 2)).block, (ad.add (k * 2)).off + 1, none⟩ = some (.string x.party) := hc' 1 _ rfl
   have C1 := HTT.out x wr (HCC.out wr HB.out)
   have HXK := Lib.hid hxk
   cases hd : del x
   ·rw [hd] at C1
    have hnext : ∀ y ∈ l.take (k + 1), del y = false := by
     intro y hy
     rw [take_snoc hxk] at hy
     rcases List.mem_append.1 hy with h | h
     ·exact HN.out y h
     ·obtain rfl : y = x := by simpa using h
      exact hd
    have HNX := Lib.hid hnext
    clear hnext hxm hab hc hc' hxk hd
    go_wp2_with fail
    refine C1.mono ?_
    rintro e w1 ⟨rfl, hb1⟩
    have HB1 := Lib.hid (HB.out.trans (hb1.mono HB.out.size))
    clear hb1 C1 e0 e1
    go_wp2
    go_roundw
    case rel => exact ⟨k + 1, hlt, by go_num, HNX.out, HB1.out⟩
    case measure => simp [intOf]; omega
   ·rw [hd] at C1
    have HD := Lib.hid hd
    clear hxm hab hc hc' hxk hd
    go_wp2_with fail
    refine C1.mono ?_
    rintro e w1 ⟨rfl, hb1⟩
    have HB1 := Lib.hid (HB.out.trans (hb1.mono HB.out.size))
    clear hb1 C1 e0 e1
    go_wp2
    go_ret
    exact ⟨k, rfl, .inr ⟨k, x, rfl, HXK.out, HD.out, HN.out⟩, HB1.out⟩
  ·obtain rfl : k = n := by omega
   have hall : ∀ x ∈ l, del x = false := by
    intro x hx
    exact HN.out x (by rw [List.take_of_length_le (by rw [Hn.out]; exact Nat.le_refl _)]; exact hx)
   have HALL := Lib.hid hall
   clear hall
   go_wp2
   go_ret
   exact ⟨-1, rfl, .inl ⟨rfl, HALL.out⟩, HB.out⟩
end Go.Proofs.YtnpkplegeddhcaaGreat
namespace Go.Proofs.YtnpkplegeddhcaaGreat
open Go.RowKit Go.Maps Go.Shelf Go.Sort

theorem infoAllC : (Tryz.prog.info? 88).map (fun i => (i.zero.map (·.cells.size), i.size, i.bytes)) = some (some 2, 2, 32) := by kernel_rfl
theorem keysC_all (mb : Option Nat) (W : World) : Calls Tryz.prog 162 #[.map mb] W fun e w' => e = .returned (.func (.func 199) #[] #[.pointer (some ⟨W.heap.size, 0, none⟩)]) ∧ w' = W.alloc (.cells #[.map mb] 79) :=
 callsIn_wide.1 (AnyZ.keys_in Tryz.keysC Fence.wide 5 trivial rfl mb W)
theorem namesC_any (v : Value) (D : DataW Unit) (w : World) (hm : MapAt Account v D w) (hmax : Maps.size D ≤ 1000000) :
  Calls Tryz.prog 159 #[.func (.func 199) #[] #[.pointer (some ⟨w.heap.size, 0, none⟩)]] (w.alloc (.cells #[v] 79)) fun e w' =>
   ∃ (A : Option Addr) (cap : Nat), e = .returned (.slice A (lstS D).length cap) ∧ Reads w' w'.heap.size 1 A (lstS D).length (strs (lstS D)) ∧ (∀ ad, A = some ad → w.heap.size ≤ ad.block) ∧ Below w.heap.size w w' := by
 have hgoal : ∀ (Q : List (List UInt8) → Prop) (n0 : Nat), n0 ≤ 1000000 → (∀ ss, Q ss → ss.Perm (strKeys D)) →
   SeqGives Fence.wide 2 Tryz.prog 199 #[.pointer (some ⟨w.heap.size, 0, none⟩)] encStr Q n0 (w.alloc (.cells #[v] 79)) →
   Calls Tryz.prog 159 #[.func (.func 199) #[] #[.pointer (some ⟨w.heap.size, 0, none⟩)]] (w.alloc (.cells #[v] 79)) fun e w' =>
   ∃ (A : Option Addr) (cap : Nat), e = .returned (.slice A (lstS D).length cap) ∧ Reads w' w'.heap.size 1 A (lstS D).length (strs (lstS D)) ∧ (∀ ad, A = some ad → w.heap.size ≤ ad.block) ∧ Below w.heap.size w w' := by
  intro Q n0 hn0 hQ hseq
  have cS := AnyZ.sorted_in Tryz.sortedA Fence.wide 5 trivial trivial trivial trivial rfl (by omega) (sortsT _) (enters_of Tryz.func197 (by kernel_rfl) rfl) 199 #[.pointer (some ⟨w.heap.size, 0, none⟩)] trivial (enters_of Tryz.func199 (by kernel_rfl) rfl) _ _ (by unfold maxLen; omega) (by omega) _ hseq
  refine (callsIn_wide.1 cS).mono ?_
  rw [World.size_alloc]
  rintro e w2 ⟨v2, ss, rfl, hp, hown, _, hb2⟩
  obtain ⟨hln, hst⟩ := names_of (hQ ss hp)
  rw [hln, hst] at hown
  obtain ⟨A, cap, rfl, hrd, hbk⟩ := reads_ownedT hown
  exact ⟨A, cap, rfl, hrd, fun ad e => by have := (hbk ad e).1; omega, ((Below.refl w.heap.size w).alloc (Nat.le_refl _) _).trans (hb2.mono (by omega))⟩
 rcases hm with ⟨rfl, rfl⟩ | ⟨b, rfl, hown⟩
 ·exact hgoal _ 0 (by omega) (fun ss h => by subst h; exact List.Perm.refl _) (AnyZ.keys_gives_nil (ρ := Tryz.keysC_ren) { Tryz.keysC with } Fence.wide _ trivial rfl w.heap.size _ (by simp) (by simp))
 ·have hbl := hown.lt
  exact hgoal _ _ hmax (fun ss h => h) (AnyZ.keys_gives (ρ := Tryz.keysC_ren) { Tryz.keysC with } Fence.wide _ trivial rfl (by omega) w.heap.size b _ D _ (by simp) (by simp) (by
   obtain ⟨es, clock, hb, Ft, hs, hD⟩ := hown
   exact ⟨es, clock, (Below.heap_alloc _ _ b hbl).trans hb, Ft, hs, hD⟩))
set_option maxHeartbeats 4000000 in
set_option maxRecDepth 10000 in
theorem sortedC_any (v : Value) (D : DataW Unit) (hg : GoodR Account D) (hD : Maps.size D ≤ 20) (w : World) (hm : MapAt Account v D w) :
  Calls Tryz.prog 76 #[v] w fun e w' => ∃ u, e = .returned u ∧ w'.ownsRow w.heap.size 88 2 u (rowsOf Account D).length (cellsOf (rowsOf Account D)) ∧ Below w.heap.size w w' := by
 obtain ⟨i0, z0, hi, hz0, hz1, hz2, hz3⟩ := info_all infoAllC
 have hvs : ∃ mb, v = .map mb := hm.elim (fun h => ⟨_, h.1⟩) (fun ⟨b, h, _⟩ => ⟨_, h⟩)
 obtain ⟨mb, rfl⟩ := hvs
 have HN := Lib.hid (namesC_any (.map mb) D w hm (by omega))
 obtain ⟨n, hn⟩ : ∃ n, (lstS D).length = n := ⟨_, rfl⟩
 have hn20 : n ≤ 20 := by rw [← hn, lstS_len hg.keys]; exact hD
 have Hn := Lib.hid hn
 have HMP := Lib.hid hm
 have HG := Lib.hid hg
 clear hm hg
 go_enter Tryz.func76, Tryz.ntmps76
 go_wp2_with fail
 refine (keysC_all _ _).mono ?_
 rintro e w1 ⟨rfl, rfl⟩
 go_wp2_with fail
 refine HN.out.mono ?_
 rintro e w2 ⟨A, cap, rfl, hrd, hab, hb2⟩
 rw [hn] at hrd ⊢
 have HR := Lib.hid hrd
 have HB2 := Lib.hid hb2
 have HM2 := Lib.hid (HMP.out.below hb2)
 clear hrd hb2 HN hn hab
 go_wp2
 go_loopw [3, 10] (fun u i wr => ∃ k : Nat, k ≤ n ∧ i = .int .i64 k ∧ Hid (wr.ownsRow w2.heap.size 88 2 u k (cellsOf ((rowsOf Account D).take k))) ∧ Hid (Below w2.heap.size w2 wr)) (fun _ i _ => n - (intOf i).toNat)
 case atStart => exact ⟨0, Nat.zero_le _, rfl, ⟨rfl, .inl ⟨rfl, rfl⟩⟩, Below.refl _ _⟩
 case round =>
  obtain ⟨k, hk, rfl, HO, HB⟩ := hrel
  by_cases hlt : k < n
  ·obtain ⟨ad, s, rfl, hab, hsk, hcs⟩ := str_at (HR.out.below HB.out) hlt
   obtain ⟨b, hmb, hown⟩ : ∃ b, mb = some b ∧ w2.ownsMap Tryz.prog 9 (Kd.E Account) b (Maps.size D) D := by
    rcases HM2.out with ⟨_, h⟩ | ⟨b, h, h2⟩
    ·rw [h] at Hn
     have := Hn.out
     have h0 : (lstS (.map [] : DataW Unit)).length = 0 := by rw [lstS_len goodS_none]; rfl
     omega
    ·injection h with h
     exact ⟨b, h, h2⟩
   subst hmb
   have hsz : s.size ≤ 9223372036854775807 := own_key hown ((mem_lstS HG.out.keys s).1 (List.mem_of_getElem? hsk))
   have hlk0 := run_look (α := Account) Tryz.underlying79 (zeroC wr) (own_keep hown (HB.out.block b hown.lt)) HG.out hsz
   obtain ⟨y, hy⟩ : ∃ y, recAt Account D s = y := ⟨_, rfl⟩
   rw [hy] at hlk0
   have hlk : (Instr.lookup 79 (.map (some b)) (.string s) false).run Tryz.prog wr = .ok (.agg #[.string y.name, .string y.party]) wr := hlk0
   have hyk : (rowsOf Account D)[k]? = some y := by unfold rowsOf; rw [List.getElem?_map, hsk, ← hy]; rfl
   have HY : Hid (cellsOf ((rowsOf Account D).take (k + 1)) = cellsOf ((rowsOf Account D).take k) ++ [.string y.name, .string y.party]) := by
    show _ = _
    rw [take_snoc hyk, cellsOf_snoc]
    rfl
   have hown3 := HO.out
   have hzw := HB.out.size
   clear hlk0 hsk hown hy hyk hsz hab
   go_wp2_with (at_builtin; refine wpList_append_any _ rfl _ _ 36 rfl w2.heap.size 88 i0 z0 2 32 Tryz.underlying36 hi hz0 hz1 hz2 hz3 (by decide) _ _ _ rfl (hown3.alloc _) (wr.heap.size + 1) (some ⟨wr.heap.size, 0, none⟩) 1 1 [.string y.name, .string y.party] rfl ?c1 ?c2 ?c3 ?c4 ?c5 ?_)
   case c1 => exact reads_newN wr _ _ _ rfl rfl
   case c2 => simp [Value.oneCell']
   case c3 => unfold maxLen; omega
   case c4 => omega
   case c5 => simp; omega
   intro v3 w3 hown4 hgrow4 hlink4
   have HO4 : Hid (w3.ownsRow w2.heap.size 88 2 v3 (k + 1) (cellsOf ((rowsOf Account D).take (k + 1)))) := by show World.ownsRow _ _ _ _ _ _ _; rw [HY.out]; exact hown4
   have HB4 := Lib.hid ((HB.out.alloc hzw (.cells #[.string y.name, .string y.party] 88)).grown hgrow4 (by simp; omega) (fun j hj => (hown3.lt j hj).1))
   clear hown4 hgrow4 hlink4 hown3 hlk hcs
   go_wp2
   go_roundw
   case rel => exact ⟨k + 1, hlt, by go_num, HO4.out, HB4.out⟩
   case measure => simp [intOf]; omega
  ·obtain rfl : k = n := by omega
   have hl : (rowsOf Account D).length = k := by unfold rowsOf; rw [List.length_map]; exact Hn.out
   have ho := HO.out
   rw [List.take_of_length_le (by rw [hl]; exact Nat.le_refl _), ← hl] at ho
   have hrow := own_low ho HB2.out.size
   have HRW := Lib.hid hrow
   clear ho hrow HO
   go_wp2
   go_ret
   exact ⟨_, rfl, HRW.out, HB2.out.trans (HB.out.mono HB2.out.size)⟩
end Go.Proofs.YtnpkplegeddhcaaGreat
namespace Go.Proofs.YtnpkplegeddhcaaGreat
open Go.RowKit Go.Maps

theorem rows2_at {w : World} {g : Nat} {cs : Array Value} {l : List Account} (h : w.heap[g]? = some (.cells cs 88 (0, 0))) (hr : Rows2 cs 0 l) : RowsAt w w.heap.size (some ⟨g, 0, none⟩) 2 l := by
 refine ⟨fun _ => ⟨_, rfl, Blk.lt (t := 88) h, fun k x hx j v hv => ?_⟩⟩
 obtain ⟨a, b⟩ := hr k x hx
 rw [Nat.zero_add] at a b
 rw [add_of_add, Addr.add_lit, Nat.zero_add, Lib.cell_of_heap h]
 rcases j with _ | _ | j
 ·obtain rfl : Value.string x.name = v := by simpa [Kd.val, Value.cells] using hv
  exact a
 ·obtain rfl : Value.string x.party = v := by simpa [Kd.val, Value.cells] using hv
  exact b
 ·simp [Kd.val, Value.cells] at hv
theorem rows2_cells {cs : Array Value} {l : List Account} (h : Rows2 cs 0 l) (_hz : l.length * 2 ≤ cs.size) : cs.toList.take (l.length * 2) = cellsOf l := by
 apply List.ext_getElem?
 intro i
 have hlen : (cellsOf l).length = l.length * 2 := cellsOf_len (fun _ _ => rfl)
 by_cases hi : i < l.length * 2
 ·rw [List.getElem?_take, if_pos hi, Array.getElem?_toList]
  have hx : l[i / 2]? = some l[i / 2] := List.getElem?_eq_getElem (by omega)
  obtain ⟨h0, h1⟩ := h (i / 2) _ hx
  rw [Nat.zero_add] at h0 h1
  rcases (show i = i / 2 * 2 ∨ i = i / 2 * 2 + 1 by omega) with e | e
  ·rw [e, h0]
   exact (cells_at (N := 2) (j := 0) (k := i / 2) (fun _ _ => rfl) hx rfl).symm
  ·rw [e, h1]
   exact (cells_at (N := 2) (j := 1) (k := i / 2) (fun _ _ => rfl) hx rfl).symm
 ·rw [List.getElem?_eq_none (by simp only [List.length_take]; omega), List.getElem?_eq_none (by omega)]
theorem filter_step {l : List Account} {del : Account → Bool} {j : Nat} {x : Account} (hx : l[j]? = some x) : (l.take (j + 1)).filter (fun y => !del y) = (l.take j).filter (fun y => !del y) ++ (if del x then [] else [x]) := by
 rw [take_snoc hx, List.filter_append]
 cases h : del x <;> simp [h]
theorem filter_all {l : List Account} {del : Account → Bool} (h : ∀ y ∈ l, del y = false) : l.filter (fun y => !del y) = l := by
 rw [List.filter_eq_self]
 intro y hy
 rw [h y hy]
 rfl
theorem drop_head {l : List Account} {j : Nat} {x : Account} (hx : l[j]? = some x) : (l.drop j)[0]? = some x := by rw [List.getElem?_drop]; exact hx

/-- The rest of a list of accounts, cleared. -/
theorem clear_accounts (w : World) (g o n c : Nat) (hn : 0 < n) (hc : ∀ t, t < n * 2 → (w.cell? ⟨g, o + t, none⟩).isSome = true) (hf : ∀ t, t < n * 2 → w.frozen? ⟨g, o + t, none⟩ = false) :
  ∃ zs : List Value, zs.length = n * 2 ∧ ∀ ty, (Builtin.clear_ #[36] ty #[.slice (some ⟨g, o, none⟩) n c]).run Tryz.prog w = .ok (.tuple #[]) (w.setCells g o zs) := by
 obtain ⟨zs, hzs⟩ : ∃ zs, (Builtin.zeroCells (Value.agg #[.string ⟨#[]⟩, .string ⟨#[]⟩]).cells n).toList = zs := ⟨_, rfl⟩
 have hlen : zs.length = n * 2 := by rw [← hzs]; simp [Builtin.zeroCells, Value.cells]
 have hone : ∀ v ∈ zs, v.oneCell' = true := by
  rw [← hzs]
  intro v hv
  simp only [Builtin.zeroCells, Array.toList_map, List.mem_map] at hv
  obtain ⟨i, _, rfl⟩ := hv
  have h2 : (Value.agg #[.string ⟨#[]⟩, .string ⟨#[]⟩]).cells.size = 2 := rfl
  rw [h2]
  have : i % 2 = 0 ∨ i % 2 = 1 := by omega
  rcases this with h | h <;> rw [h] <;> rfl
 have hst := run_storeCells_cells (P := Tryz.prog) g o zs 0 w (by rw [hlen]; simpa using hc) (by rw [hlen]; simpa using hf) hone
 simp only [Nat.add_zero] at hst
 obtain ⟨m, rfl⟩ : ∃ m, n = m + 1 := ⟨n - 1, by omega⟩
 refine ⟨zs, hlen, fun ty => ?_⟩
 simp [Builtin.clear_, run_underlying Tryz.underlying36, hzs, hst]
/-- Cells that are written from an offset on: what stands ahead of it stays. -/
theorem set_blk {g : Nat} : ∀ (zs : List Value) (o : Nat) (w : World) (cs : Array Value), w.heap[g]? = some (.cells cs 88 (0, 0)) → ∃ cs', (w.setCells g o zs).heap[g]? = some (.cells cs' 88 (0, 0)) ∧ (∀ t, t < o → cs'[t]? = cs[t]?) ∧ cs'.size = cs.size ∧ Mv [g] [g] w (w.setCells g o zs)
 | [], o, w, cs, h => ⟨cs, h, fun _ _ => rfl, rfl, Mv.refl _ _⟩
 | z :: zs, o, w, cs, h => by
  obtain ⟨cs', h1, h2, h9, h3⟩ := set_blk zs (o + 1) _ _ (Blk.set_ (show Blk w g 88 _ from h) o z)
  refine ⟨cs', h1, fun t ht => (h2 t (by omega)).trans (get_set_ne (by omega)), by rw [h9, Array.size_setIfInBounds], ?_⟩
  exact ((Mv.refl [g] w).set_ (g := g) (by simp) o z).trans h3
set_option maxHeartbeats 4000000 in
set_option maxRecDepth 10000 in
theorem delete_any (q : Nat) (del : Account → Bool) (C : World → Prop) (HT : Tells q del C) (l : List Account) (g cap : Nat) (cur : Array Value) (w : World) (hb : w.heap[g]? = some (.cells cur 88 (0, 0))) (hcs : cur.size = cap * 2) (hr : Rows2 cur 0 l) (hlc : l.length ≤ cap) (hl : l.length ≤ 1000000) (_hcap : cap ≤ 9223372036854775807) (hC : ∀ w', Mv [g] [g] w w' → C w') :
  Calls Tryz.prog 75 #[.slice (some ⟨g, 0, none⟩) l.length cap, .func (.func 77) #[] #[.pointer (some ⟨q, 0, none⟩)]] w fun e w' =>
   ∃ cs', e = .returned (.slice (some ⟨g, 0, none⟩) (l.filter (fun y => !del y)).length cap) ∧ w'.heap[g]? = some (.cells cs' 88 (0, 0)) ∧ Rows2 cs' 0 (l.filter (fun y => !del y)) ∧ cs'.size = cap * 2 ∧ Mv [g] [g] w w' := by
 have hgl : g < w.heap.size := Blk.lt (t := 88) hb
 have HI := Lib.hid (index_any q del C HT l (some ⟨g, 0, none⟩) cap w (rows2_at hb hr) (fun w' h => hC w' (Mv.of_new h (fun _ h => .inl h))) hl)
 obtain ⟨n, hn⟩ : ∃ n, l.length = n := ⟨_, rfl⟩
 rw [hn] at hl HI hlc ⊢
 obtain ⟨ad, had⟩ : ∃ ad : Addr, (⟨g, 0, none⟩ : Addr) = ad := ⟨_, rfl⟩
 have HAD := Lib.hid had
 rw [had] at HI ⊢
 have Hn := Lib.hid hn
 have HR := Lib.hid hr
 have HBK := Lib.hid hb
 have HCS := Lib.hid hcs
 have HCC := Lib.hid hC
 have HTT := Lib.hid HT
 clear hn hr hb hcs hC HT had
 go_enter Tryz.func75, Tryz.ntmps75
 go_wp2_with fail
 refine HI.out.mono ?_
 rintro e w1 ⟨z, rfl, hz, hb1⟩
 have HB1 := Lib.hid hb1
 have HBK1 := Lib.hid ((hb1.block g hgl).trans HBK.out)
 clear hb1 HI
 rcases hz with ⟨rfl, hall⟩ | ⟨k0, x0, rfl, hx0, hd0, hk0⟩
 ·have hf := filter_all hall
  have HF := Lib.hid hf
  have hfl : (l.filter (fun y => !del y)).length = n := by rw [hf]; exact Hn.out
  have HFL := Lib.hid hfl
  clear hf hfl hall
  go_wp2
  go_ret
  rw [HFL.out, HF.out]
  exact ⟨cur, rfl, HBK1.out, HR.out, HCS.out, Mv.of_new HB1.out (fun _ h => .inl h)⟩
 ·have hkn : k0 < n := by rw [← Hn.out]; exact (List.getElem?_eq_some_iff.1 hx0).1
  have hz1 : ((k0 : Int) == -1) = false := by
   rw [beq_eq_false_iff_ne]
   omega
  have hpre : (l.take (k0 + 1)).filter (fun y => !del y) = l.take k0 := by
   rw [filter_step hx0, hd0, if_pos rfl, List.append_nil, filter_all hk0]
  have hst : Rows2 cur 0 ((l.take (k0 + 1)).filter (fun y => !del y)) ∧ Rows2 cur (k0 + 1) (l.drop (k0 + 1)) ∧ k0 = ((l.take (k0 + 1)).filter (fun y => !del y)).length := by
   rw [hpre]
   refine ⟨fun k x hx => ?_, fun k x hx => ?_, ?_⟩
   ·rw [List.getElem?_take] at hx
    split at hx
    ·exact HR.out k x hx
    ·cases hx
   ·rw [List.getElem?_drop] at hx
    have h := HR.out (k0 + 1 + k) x hx
    rw [Nat.zero_add] at h
    exact h
   ·rw [List.length_take, Hn.out]; omega
  have HST := Lib.hid hst
  clear hst hpre hx0 hd0 hk0
  go_wp2
  go_loopw [5, 6] (fun u v wr => ∃ (i j : Nat) (cs : Array Value), i < j ∧ j ≤ n ∧ u = .int .i64 i ∧ v = .int .i64 j ∧ Hid (i = ((l.take j).filter (fun y => !del y)).length) ∧ Hid (wr.heap[g]? = some (.cells cs 88 (0, 0))) ∧ Hid (cs.size = cap * 2) ∧ Hid (Rows2 cs 0 ((l.take j).filter (fun y => !del y))) ∧ Hid (Rows2 cs j (l.drop j)) ∧ Hid (Mv [g] [g] w wr)) (fun _ v _ => n - (intOf v).toNat)
  case atStart => exact ⟨k0, k0 + 1, cur, Nat.lt_succ_self _, hkn, rfl, by go_num, HST.out.2.2, HBK1.out, HCS.out, HST.out.1, HST.out.2.1, Mv.of_new HB1.out (fun _ h => .inl h)⟩
  case round =>
   obtain ⟨i, j, cs, hij, hjn, rfl, rfl, HI, HK, HZ, HA, HT, HM⟩ := hrel
   clear HBK1 HST HB1
   by_cases hlt : j < n
   ·obtain ⟨x, hxj⟩ : ∃ x, l[j]? = some x := ⟨_, List.getElem?_eq_getElem (by rw [Hn.out]; exact hlt)⟩
    have h0 := HT.out 0 x (drop_head hxj)
    rw [Nat.add_zero] at h0
    have e0 : wr.cell? (ad.add (j * 2)) = some (.string x.name) := by rw [← HAD.out, Addr.add_lit, Nat.zero_add, Lib.cell_of_heap HK.out]; exact h0.1
    have e1 : wr.cell? ⟨(ad.add (j * 2)).block, (ad.add (j * 2)).off + 1, none⟩ = some (.string x.party) := by rw [← HAD.out, Addr.add_lit, Nat.zero_add]; show wr.cell? ⟨g, j * 2 + 1, none⟩ = _; rw [Lib.cell_of_heap HK.out]; exact h0.2
    have hb0 : Below wr.heap.size wr (wr.alloc (.cells #[.string x.name, .string x.party] 88)) := (Below.refl _ _).alloc (Nat.le_refl _) _
    have C1 := HTT.out x _ (HCC.out _ (HM.out.alloc (.cells #[.string x.name, .string x.party] 88)))
    have hgr : g < wr.heap.size := Blk.lt (t := 88) HK.out
    have hK1 := (hb0.block g hgr).trans HK.out
    have hM1 := HM.out.alloc (.cells #[.string x.name, .string x.party] 88)
    have hc1 : (wr.alloc (.cells #[.string x.name, .string x.party] 88)).heap[wr.heap.size]? = some (.cells #[.string x.name, .string x.party] 88 (0, 0)) := heap_alloc_new _ _
    obtain ⟨W1, hW1⟩ : ∃ W1, wr.alloc (.cells #[.string x.name, .string x.party] 88) = W1 := ⟨_, rfl⟩
    obtain ⟨c0, hc0⟩ : ∃ c0, wr.heap.size = c0 := ⟨_, rfl⟩
    rw [hW1] at C1 hK1 hM1 hc1
    rw [hc0] at hc1 hgr
    have hgc : g ≠ c0 := Nat.ne_of_lt hgr
    have k0' : W1.cell? ⟨c0, 0, none⟩ = some (.string x.name) := by rw [Lib.cell_of_heap hc1]; rfl
    have k1' : W1.cell? ⟨c0, 1, none⟩ = some (.string x.party) := by rw [Lib.cell_of_heap hc1]; rfl
    have HW1 := Lib.hid hW1; have HC0 := Lib.hid hc0; have HK1 := Lib.hid hK1; have HM1 := Lib.hid hM1; have HC1 := Lib.hid hc1; have HXJ := Lib.hid hxj
    cases hd : del x
    ·rw [hd] at C1
     have HD := Lib.hid hd
     clear hW1 hc0 hK1 hM1 hc1 hb0 hxj hd h0
     go_wp2_with fail
     rw [HW1.out, HC0.out]
     refine C1.mono ?_
     rintro e w2 ⟨rfl, hb2⟩
     have hg1 : g < W1.heap.size := Blk.lt (t := 88) HK1.out
     have HK2 := Lib.hid ((hb2.block g hg1).trans HK1.out)
     have HM2 := Lib.hid (HM1.out.trans (Mv.of_new (S' := [g]) hb2 (fun _ h => .inl h)))
     have k20 : w2.cell? ⟨c0, 0, none⟩ = some (.string x.name) := (hb2.cell (p := ⟨c0, 0, none⟩) (Blk.lt (t := 88) HC1.out)).trans k0'
     have k21 : w2.cell? ⟨c0, 1, none⟩ = some (.string x.party) := (hb2.cell (p := ⟨c0, 1, none⟩) (Blk.lt (t := 88) HC1.out)).trans k1'
     have hsz : i * 2 + 1 < cs.size := by have := HZ.out; omega
     have o0 : ∃ u, w2.cell? (ad.add (i * 2)) = some u := by rw [← HAD.out, Addr.add_lit, Nat.zero_add, Lib.cell_of_heap HK2.out]; exact ⟨_, Array.getElem?_eq_getElem (by omega)⟩
     have o1 : ∃ u, w2.cell? ⟨(ad.add (i * 2)).block, (ad.add (i * 2)).off + 1, none⟩ = some u := by rw [← HAD.out, Addr.add_lit, Nat.zero_add]; show ∃ u, w2.cell? ⟨g, i * 2 + 1, none⟩ = some u; rw [Lib.cell_of_heap HK2.out]; exact ⟨_, Array.getElem?_eq_getElem hsz⟩
     obtain ⟨v0, o0⟩ := o0
     have hadd : ad.add (i * 2) = ⟨g, i * 2, none⟩ := by rw [← HAD.out, Addr.add_lit, Nat.zero_add]
     have hK3 : (w2.setCell (ad.add (i * 2)) (.string x.name)).heap[g]? = some (.cells (cs.setIfInBounds (i * 2) (.string x.name)) 88 (0, 0)) := by rw [hadd]; exact Blk.set_ (show Blk w2 g 88 _ from HK2.out) _ _
     have o1 : ∃ u, (w2.setCell (ad.add (i * 2)) (.string x.name)).cell? ⟨(ad.add (i * 2)).block, (ad.add (i * 2)).off + 1, none⟩ = some u := by
      rw [show (⟨(ad.add (i * 2)).block, (ad.add (i * 2)).off + 1, none⟩ : Addr) = ⟨g, i * 2 + 1, none⟩ by rw [hadd], Lib.cell_of_heap hK3]
      exact ⟨_, Array.getElem?_eq_getElem (by simpa using hsz)⟩
     obtain ⟨v1, o1⟩ := o1
     have f0 : w2.frozen? (ad.add (i * 2)) = false := by rw [hadd]; exact Lib.frozen_of_heap HK2.out _
     have f1 : (w2.setCell (ad.add (i * 2)) (.string x.name)).frozen? ⟨(ad.add (i * 2)).block, (ad.add (i * 2)).off + 1, none⟩ = false := by
      rw [show (⟨(ad.add (i * 2)).block, (ad.add (i * 2)).off + 1, none⟩ : Addr) = ⟨g, i * 2 + 1, none⟩ by rw [hadd]]
      exact Lib.frozen_of_heap hK3 _
     have f1' : w2.frozen? ⟨(ad.add (i * 2)).block, (ad.add (i * 2)).off + 1, none⟩ = false := by
      rw [show (⟨(ad.add (i * 2)).block, (ad.add (i * 2)).off + 1, none⟩ : Addr) = ⟨g, i * 2 + 1, none⟩ by rw [hadd]]
      exact Lib.frozen_of_heap HK2.out _
     have HFIN : Hid (∀ W, W = (w2.setCell (ad.add (i * 2)) (.string x.name)).setCell ⟨(ad.add (i * 2)).block, (ad.add (i * 2)).off + 1, none⟩ (.string x.party) → W.heap[g]? = some (.cells ((cs.setIfInBounds (i * 2) (.string x.name)).setIfInBounds (i * 2 + 1) (.string x.party)) 88 (0, 0)) ∧ Mv [g] [g] w W) := by
      intro W hW
      rw [hW, show (⟨(ad.add (i * 2)).block, (ad.add (i * 2)).off + 1, none⟩ : Addr) = ⟨g, i * 2 + 1, none⟩ by rw [hadd]]
      refine ⟨Blk.set_ (show Blk _ g 88 _ from hK3) _ _, ?_⟩
      rw [hadd]
      exact (HM2.out.set_ (g := g) (by simp) _ _).set_ (g := g) (by simp) _ _
     have hlen1 : ((l.take (j + 1)).filter (fun y => !del y)) = (l.take j).filter (fun y => !del y) ++ [x] := by rw [filter_step HXJ.out, HD.out]; rfl
     have HLEN1 := Lib.hid hlen1
     clear hb2 C1 e0 e1 k0' k1' HW1 HC0 HK1 HM1 HC1 hK3 hlen1 hadd
     go_wp2
     go_roundw
     case rel =>
      obtain ⟨hk5, hm5⟩ := HFIN.out _ rfl
      refine ⟨i + 1, j + 1, _, by omega, hlt, by go_num, by go_num, ?_, hk5, ?_, ?_, ?_, hm5⟩
      ·show i + 1 = _
       rw [HLEN1.out, List.length_append, ← HI.out]; rfl
      ·show Array.size _ = _
       rw [Array.size_setIfInBounds, Array.size_setIfInBounds]; exact HZ.out
      ·show Rows2 _ _ _
       rw [HLEN1.out]
       exact HA.out.keep HI.out.symm x hsz
      ·exact Rows2.drop (HT.out.tail hij)
     case measure => simp [intOf]; omega
    ·rw [hd] at C1
     have hlen1 : ((l.take (j + 1)).filter (fun y => !del y)) = (l.take j).filter (fun y => !del y) := by rw [filter_step hxj, hd, if_pos rfl, List.append_nil]
     have HLEN1 := Lib.hid hlen1
     clear hW1 hc0 hK1 hM1 hc1 hb0 hxj hd h0 hlen1
     go_wp2_with fail
     rw [HW1.out, HC0.out]
     refine C1.mono ?_
     rintro e w2 ⟨rfl, hb2⟩
     have hg1 : g < W1.heap.size := Blk.lt (t := 88) HK1.out
     have HK2 := Lib.hid ((hb2.block g hg1).trans HK1.out)
     have HM2 := Lib.hid (HM1.out.trans (Mv.of_new (S' := [g]) hb2 (fun _ h => .inl h)))
     clear hb2 C1 e0 e1 k0' k1' HW1 HC0 HK1 HM1 HC1
     go_wp2
     go_roundw
     case rel =>
      refine ⟨i, j + 1, cs, by omega, hlt, rfl, by go_num, ?_, HK2.out, HZ.out, ?_, Rows2.drop HT.out, HM2.out⟩
      ·show i = _
       rw [HLEN1.out]; exact HI.out
      ·show Rows2 _ _ _
       rw [HLEN1.out]; exact HA.out
     case measure => simp [intOf]; omega
   ·obtain rfl : j = n := by omega
    have hlf : (l.take j) = l := List.take_of_length_le (by rw [Hn.out]; exact Nat.le_refl _)
    rw [hlf] at HI HA
    have hin : i < j := by omega
    have haddi : ad.add (i * 2) = ⟨g, i * 2, none⟩ := by rw [← HAD.out, Addr.add_lit, Nat.zero_add]
    obtain ⟨zs, hzs, hcl⟩ := clear_accounts wr g (i * 2) (j - i) (cap - i) (by omega)
     (fun t ht => by rw [Lib.cell_of_heap HK.out, Array.getElem?_eq_getElem (by have := HZ.out; omega)]; rfl) (fun t _ => Lib.frozen_of_heap HK.out _)
    have hcl2 : ∀ ty, (Builtin.clear_ #[36] ty #[.slice (some (ad.add (i * 2))) (j - i) (cap - i)]).run Tryz.prog wr = .ok (.tuple #[]) (wr.setCells g (i * 2) zs) := by rw [haddi]; exact hcl
    obtain ⟨cs2, hk2, hkeep, hz2, hm2⟩ := set_blk (g := g) zs (i * 2) wr cs HK.out
    have hr2 : Rows2 cs2 0 (l.filter (fun y => !del y)) := HA.out.same (fun t ht => hkeep t (by have := HI.out; omega))
    have HR2 := Lib.hid hr2
    have HZ2 := Lib.hid (hz2.trans HZ.out)
    have HK2 := Lib.hid hk2
    have HM2 := Lib.hid (HM.out.trans hm2)
    obtain ⟨W2, hW2⟩ : ∃ W2, wr.setCells g (i * 2) zs = W2 := ⟨_, rfl⟩
    rw [hW2] at hcl2 HK2 HM2
    clear hcl hk2 hkeep hm2 hr2 hW2 hzs haddi hz2
    go_wp2
    go_ret
    rw [← HI.out]
    exact ⟨cs2, rfl, HK2.out, HR2.out, HZ2.out, HM2.out⟩
theorem delete_nil (q : Nat) (del : Account → Bool) (C : World → Prop) (HT : Tells q del C) (cap : Nat) (w : World) (hC : ∀ w', Below w.heap.size w w' → C w') :
  Calls Tryz.prog 75 #[.slice none 0 cap, .func (.func 77) #[] #[.pointer (some ⟨q, 0, none⟩)]] w fun e w' => e = .returned (.slice none 0 cap) ∧ Below w.heap.size w w' := by
 have HI := Lib.hid (index_any q del C HT [] none cap w ⟨fun h => absurd h (by simp)⟩ hC (by simp))
 go_enter Tryz.func75, Tryz.ntmps75
 go_wp2_with fail
 refine HI.out.mono ?_
 rintro e w1 ⟨z, rfl, hz, hb1⟩
 have HB1 := Lib.hid hb1
 rcases hz with ⟨rfl, _⟩ | ⟨k0, x0, _, hx0, _⟩
 ·clear hb1 HI
  go_wp2
  go_ret
  exact ⟨rfl, HB1.out⟩
 ·simp at hx0
/-- The accounts of a party. -/
def ownRows (st : Rf) (p : ByteArray) : List Account := (rowsOf Account st.a).filter (fun y => !delB p y)
set_option maxHeartbeats 4000000 in
set_option maxRecDepth 10000 in
theorem accounts_any (r : Nat) (st : Rf) (hok : st.Ok) (p : ByteArray) (w : World) (h : RefAt r st w) :
  Calls Tryz.prog 38 #[.pointer (some ⟨r, 0, none⟩), .string p] w fun e w' => ∃ u, e = .returned u ∧ w'.ownsRow w.heap.size 88 2 u (ownRows st p).length (cellsOf (ownRows st p)) ∧ Below w.heap.size w w' := by
 obtain ⟨W1, hW1⟩ : ∃ W1, w.alloc (.cells #[.string p] 9) = W1 := ⟨_, rfl⟩
 have hb1 : Below w.heap.size w W1 := by rw [← hW1]; exact (Below.refl _ _).alloc (Nat.le_refl _) _
 have hz : w.heap.size < W1.heap.size := by rw [← hW1]; simp
 have hq : W1.cell? ⟨w.heap.size, 0, none⟩ = some (.string p) := by rw [← hW1, Lib.cell_of_heap (heap_alloc_new w _)]; rfl
 have h1 := h.below hb1
 obtain ⟨b, hcell, hown, _⟩ := h1.ownC
 have hlen : (rowsOf Account st.a).length ≤ 20 := by rw [rows_len hok.ga]; exact hok.na
 have HS := Lib.hid (sortedC_any (.map (some b)) st.a hok.ga hok.na W1 (.inr ⟨b, rfl, hown⟩))
 have HW1 := Lib.hid hW1; have HB1 := Lib.hid hb1; have HQ := Lib.hid hq; have HZ := Lib.hid hz
 obtain ⟨q, hqq⟩ : ∃ q, w.heap.size = q := ⟨_, rfl⟩
 have HQQ := Lib.hid hqq
 have HTL : Hid (Tells q (delB p) (fun w' => w'.cell? ⟨q, 0, none⟩ = some (.string p) ∧ q < w'.heap.size)) := fun x w1 hc => acc1_any q p x w1 hc.1 hc.2
 rw [hqq] at HQ HZ
 have hrl := h.lt
 have hcell0 : w.cell? ⟨r, 2, none⟩ = some (.map (some b)) := by rw [← hcell, ← hW1]; exact (World.cell?_alloc_lt _ _ ⟨r, 2, none⟩ hrl).symm
 clear hW1 hb1 hz hq h1 hown h hqq hcell
 have hmf := makes
 go_enter Tryz.func38, Tryz.ntmps38
 go_wp2_with fail
 rw [HW1.out]
 refine HS.out.mono ?_
 rintro e w2 ⟨u, rfl, ho, hb2⟩
 have hc2 : w2.cell? ⟨q, 0, none⟩ = some (.string p) ∧ q < w2.heap.size := ⟨(hb2.cell (p := ⟨q, 0, none⟩) HZ.out).trans HQ.out, Nat.lt_of_lt_of_le HZ.out hb2.size⟩
 have HB2 := Lib.hid (HB1.out.trans (hb2.mono HB1.out.size))
 have HSZ := Lib.hid hb2.size
 obtain ⟨l, hl⟩ : ∃ l, rowsOf Account st.a = l := ⟨_, rfl⟩
 have hor : ownRows st p = l.filter (fun y => !delB p y) := by rw [← hl]; rfl
 have HOR := Lib.hid hor
 rw [hl] at ho hlen
 clear HS HW1 hl hor hb2
 have hx := ho.2
 rcases hx with ⟨rfl, hn0⟩ | ⟨g, cap, cur, rfl, hbg, hh, hnc, hcm, hcs, hcur⟩
 ·obtain rfl : l = [] := List.eq_nil_of_length_eq_zero hn0
  have HD := Lib.hid (delete_nil q (delB p) _ HTL.out 0 w2 (fun w' hb => ⟨(hb.cell (p := ⟨q, 0, none⟩) hc2.2).trans hc2.1, Nat.lt_of_lt_of_le hc2.2 hb.size⟩))
  clear ho hc2 hn0
  go_wp2_with fail
  rw [HQQ.out]
  refine HD.out.mono ?_
  rintro e w3 ⟨rfl, hb3⟩
  have HB3 := Lib.hid (HB2.out.trans (hb3.mono HB2.out.size))
  clear hb3
  go_wp2
  go_ret
  rw [HOR.out]
  exact ⟨_, rfl, World.ownsRow_nil _ _ _ _, HB3.out⟩
 ·have hr : Rows2 cur 0 l := by
   intro k x hx
   have hcell : ∀ (j : Nat) (v : Value), (Kd.val x).cells[j]? = some v → cur[(0 + k) * 2 + j]? = some v := by
    intro j v hv
    have h := cells_at (N := 2) (fun (y : Account) _ => rfl) hx hv
    rw [← hcur, List.getElem?_take] at h
    split at h
    ·rw [Nat.zero_add]; simpa using h
    ·cases h
   exact ⟨hcell 0 _ rfl, hcell 1 _ rfl⟩
  have hgq : q ≠ g := by
   intro e
   have := HZ.out
   omega
  have HD := Lib.hid (delete_any q (delB p) _ HTL.out l g cap cur w2 hh hcs hr hnc (by omega) (by unfold maxLen at hcm; exact hcm) (fun w' hm => ⟨by
   have h := hm.block q hc2.2 (by simpa using hgq)
   have h2 := hc2.1
   simp only [World.cell?] at h2 ⊢
   rw [h]
   exact h2, Nat.lt_of_lt_of_le hc2.2 hm.size⟩))
  have hgB : w.heap.size ≤ g := Nat.le_trans HB1.out.size hbg
  have HGB := Lib.hid hgB
  have HNC : Hid (l.length ≤ cap ∧ cap ≤ maxLen) := ⟨hnc, hcm⟩
  obtain ⟨n, hn⟩ : ∃ n, l.length = n := ⟨_, rfl⟩
  rw [hn] at HD ⊢
  clear ho hh hr hcs hcur hc2 hnc hcm hgq hbg hn hgB
  go_wp2_with fail
  rw [HQQ.out]
  refine HD.out.mono ?_
  rintro e w3 ⟨cs', rfl, hk3, hr3, hz3, hm3⟩
  have HR3 : Hid (w3.ownsRow w.heap.size 88 2 (.slice (some ⟨g, 0, none⟩) (l.filter (fun y => !delB p y)).length cap) (l.filter (fun y => !delB p y)).length (cellsOf (l.filter (fun y => !delB p y)))) := ⟨cellsOf_len (fun _ _ => rfl), .inr ⟨g, cap, cs', rfl, HGB.out, hk3, Nat.le_trans (List.length_filter_le _ _) HNC.out.1, HNC.out.2, hz3, rows2_cells hr3 (by rw [hz3]; exact Nat.mul_le_mul_right _ (Nat.le_trans (List.length_filter_le _ _) HNC.out.1))⟩⟩
  have HB3 := Lib.hid (HB2.out.trans (hm3.below (by simpa using HGB.out) HB2.out.size))
  clear hk3 hr3 hm3 hz3
  go_wp2
  go_ret
  rw [HOR.out]
  exact ⟨_, rfl, HR3.out, HB3.out⟩
end Go.Proofs.YtnpkplegeddhcaaGreat
