/-
  slices.IndexFunc and slices.DeleteFunc at accounts.
  Conditions: the function that is handed in changes nothing that lies.
-/
import Derived.Test.YtnpkplegeddhcaaRef7
namespace Go.Proofs.Ytnpkplegeddhcaa
open Go.RowKit Go.Maps

/-- The rows of accounts in a block of their own. -/
def Rows2 (cs : Array Value) (k0 : Nat) (l : List Account) : Prop := ∀ k x, l[k]? = some x → cs[(k0 + k) * 2]? = some (.string x.name) ∧ cs[(k0 + k) * 2 + 1]? = some (.string x.party)
theorem Rows2.at_ {cs : Array Value} {k0 : Nat} {l : List Account} (h : Rows2 cs k0 l) {k : Nat} {x : Account} (hx : l[k]? = some x) : cs[(k0 + k) * 2]? = some (.string x.name) ∧ cs[(k0 + k) * 2 + 1]? = some (.string x.party) := h k x hx
theorem get_set_ne {cs : Array Value} {i j : Nat} {v : Value} (h : j ≠ i) : (cs.setIfInBounds j v)[i]? = cs[i]? := by
  rw [Array.getElem?_setIfInBounds_ne h]
theorem get_set_eq {cs : Array Value} {i : Nat} {v : Value} (h : i < cs.size) : (cs.setIfInBounds i v)[i]? = some v := by
  rw [Array.getElem?_setIfInBounds_self_of_lt h]
/-- One more row behind those that are kept. -/
theorem Rows2.keep {cs : Array Value} {l : List Account} {i : Nat} (h : Rows2 cs 0 l) (hi : l.length = i) (y : Account) (hs : i * 2 + 1 < cs.size) : Rows2 ((cs.setIfInBounds (i * 2) (.string y.name)).setIfInBounds (i * 2 + 1) (.string y.party)) 0 (l ++ [y]) := by
  intro k x hx
  rcases Nat.lt_or_ge k l.length with h1 | h1
  · rw [List.getElem?_append_left h1] at hx
    obtain ⟨a, b⟩ := h k x hx
    rw [get_set_ne (by omega), get_set_ne (by omega), get_set_ne (by omega), get_set_ne (by omega)]
    exact ⟨a, b⟩
  · have hk : k = l.length := by
      have := (List.getElem?_eq_some_iff.1 hx).1
      simp at this
      omega
    subst hk
    rw [List.getElem?_append_right (Nat.le_refl _), Nat.sub_self] at hx
    obtain rfl : y = x := by simpa using hx
    rw [hi, Nat.zero_add]
    exact ⟨by rw [get_set_ne (by omega), get_set_eq (by omega)], get_set_eq (by simpa using hs)⟩
theorem Rows2.tail {cs : Array Value} {l : List Account} {i j : Nat} {u v : Value} (h : Rows2 cs j l) (hi : i < j) : Rows2 ((cs.setIfInBounds (i * 2) u).setIfInBounds (i * 2 + 1) v) j l := by
  intro k x hx
  obtain ⟨a, b⟩ := h k x hx
  rw [get_set_ne (by omega), get_set_ne (by omega), get_set_ne (by omega), get_set_ne (by omega)]
  exact ⟨a, b⟩
theorem Rows2.drop {cs : Array Value} {l : List Account} {j : Nat} (h : Rows2 cs j (l.drop j)) : Rows2 cs (j + 1) (l.drop (j + 1)) := by
  intro k x hx
  have := h (k + 1) x (by rw [List.getElem?_drop] at hx ⊢; rw [show j + (k + 1) = j + 1 + k by omega]; exact hx)
  rw [show j + 1 + k = j + (k + 1) by omega]
  exact this
section
variable {cs cs' : Array Value}
theorem Rows2.same {k0 : Nat} {l : List Account} (h : Rows2 cs k0 l) (he : ∀ i, i < (k0 + l.length) * 2 → cs'[i]? = cs[i]?) : Rows2 cs' k0 l := by
  intro k x hx
  have hk := (List.getElem?_eq_some_iff.1 hx).1
  obtain ⟨a, b⟩ := h k x hx
  exact ⟨(he _ (by omega)).trans a, (he _ (by omega)).trans b⟩
end
theorem cell_add (w : World) (g k j : Nat) (cs : Array Value) (t : TypeId) (h : w.heap[g]? = some (.cells cs t (0, 0))) : w.cell? ⟨g, k * 2 + j, none⟩ = cs[k * 2 + j]? := by rw [Lib.cell_of_heap h]

/-- Is an account not of that party? -/
def delB (p : ByteArray) (x : Account) : Bool := !p.toList.isEmpty && !(x.party.toList == p.toList)
set_option maxHeartbeats 4000000 in
set_option maxRecDepth 10000 in
theorem acc1_any (q : Nat) (p : ByteArray) (x : Account) (w : World) (hq : w.cell? ⟨q, 0, none⟩ = some (.string p)) (hlt : q < w.heap.size) :
    Calls Try.prog 44 #[.agg #[.string x.name, .string x.party], .pointer (some ⟨q, 0, none⟩)] w fun e w' => e = .returned (.bool (delB p x)) ∧ Below w.heap.size w w' := by
  have hq2 : (w.alloc (.cells #[.string x.name, .string x.party] 40)).cell? ⟨q, 0, none⟩ = some (.string p) := (World.cell?_alloc_lt _ _ ⟨q, 0, none⟩ hlt).trans hq
  obtain ⟨name, party⟩ := x
  unfold delB
  cases he : p.toList.isEmpty
  · go_enter Try.func44, Try.ntmps44
    go_wp2
    go_ret
    exact ⟨ret_bool (by first | rfl | simp), (Below.refl _ _).alloc (Nat.le_refl _) _⟩
  · go_enter Try.func44, Try.ntmps44
    go_wp2
    go_ret
    exact ⟨ret_bool (by first | rfl | simp), (Below.refl _ _).alloc (Nat.le_refl _) _⟩
/-- What the function handed in does, and where. -/
def Tells (q : Nat) (del : Account → Bool) (C : World → Prop) : Prop :=
  ∀ (x : Account) (w1 : World), C w1 → Calls Try.prog 44 #[.agg #[.string x.name, .string x.party], .pointer (some ⟨q, 0, none⟩)] w1 fun e w2 => e = .returned (.bool (del x)) ∧ Below w1.heap.size w1 w2
set_option maxHeartbeats 4000000 in
set_option maxRecDepth 10000 in
theorem index_any (q : Nat) (del : Account → Bool) (C : World → Prop) (HT : Tells q del C) (l : List Account) (A : Option Addr) (cap : Nat) (w : World) (hr : RowsAt w w.heap.size A 2 l) (hC : ∀ w', Below w.heap.size w w' → C w') (hl : l.length ≤ 1000000) :
    Calls Try.prog 55 #[.slice A l.length cap, .func (.func 44) #[] #[.pointer (some ⟨q, 0, none⟩)]] w fun e w' =>
      ∃ z : Int, e = .returned (.int .i64 z) ∧ ((z = -1 ∧ ∀ x ∈ l, del x = false) ∨ ∃ (k : Nat) (x : Account), z = k ∧ l[k]? = some x ∧ del x = true ∧ ∀ y ∈ l.take k, del y = false) ∧ Below w.heap.size w w' := by
  obtain ⟨n, hn⟩ : ∃ n, l.length = n := ⟨_, rfl⟩
  rw [hn] at hl ⊢
  have Hn := Lib.hid hn
  have HR := Lib.hid hr
  have HCC := Lib.hid hC
  have HTT := Lib.hid HT
  clear hn hr hC HT
  go_enter Try.func55, Try.ntmps55
  go_wp2
  go_loopw [8] (fun i wr => ∃ k : Nat, k ≤ n ∧ i = .int .i64 k ∧ Hid (∀ y ∈ l.take k, del y = false) ∧ Hid (Below w.heap.size w wr)) (fun i _ => n - (intOf i).toNat)
  case atStart => exact ⟨0, Nat.zero_le _, rfl, fun y h => by simp at h, Below.refl _ _⟩
  case round =>
    obtain ⟨k, hk, rfl, HN, HB⟩ := hrel
    by_cases hlt : k < n
    · obtain ⟨ad, x, rfl, hab, hxk, hxm, hc⟩ := (HR.out).at_ (show k < l.length by rw [Hn.out]; exact hlt)
      have hc' : ∀ j v, (Kd.val x).cells[j]? = some v → wr.cell? ((ad.add (k * 2)).add j) = some v := fun j v hj => (HB.out.cell (by rw [block_of_add, block_of_add]; exact hab)).trans (hc j v hj)
      have e0 : wr.cell? (ad.add (k * 2)) = some (.string x.name) := by have h := hc' 0 _ rfl; rw [show (ad.add (k * 2)).add 0 = ad.add (k * 2) from by rw [add_of_add]; rfl] at h; exact h
      have e1 : wr.cell? ⟨(ad.add (k * 2)).block, (ad.add (k * 2)).off + 1, none⟩ = some (.string x.party) := hc' 1 _ rfl
      have C1 := HTT.out x wr (HCC.out wr HB.out)
      have HXK := Lib.hid hxk
      cases hd : del x
      · rw [hd] at C1
        have hnext : ∀ y ∈ l.take (k + 1), del y = false := by
          intro y hy
          rw [take_snoc hxk] at hy
          rcases List.mem_append.1 hy with h | h
          · exact HN.out y h
          · obtain rfl : y = x := by simpa using h
            exact hd
        have HNX := Lib.hid hnext
        clear hnext hxm hab hc hc' hxk hd
        go_wp2_with fail
        refine C1.mono ?_
        rintro e w1 ⟨rfl, hb1⟩
        have HB1 := Lib.hid (HB.out.trans (hb1.mono HB.out.size))
        clear hb1 C1 e0 e1
        go_wp2
        go_roundw
        case rel => exact ⟨k + 1, hlt, by go_num, HNX.out, HB1.out⟩
        case measure => simp [intOf]; omega
      · rw [hd] at C1
        have HD := Lib.hid hd
        clear hxm hab hc hc' hxk hd
        go_wp2_with fail
        refine C1.mono ?_
        rintro e w1 ⟨rfl, hb1⟩
        have HB1 := Lib.hid (HB.out.trans (hb1.mono HB.out.size))
        clear hb1 C1 e0 e1
        go_wp2
        go_ret
        exact ⟨k, rfl, .inr ⟨k, x, rfl, HXK.out, HD.out, HN.out⟩, HB1.out⟩
    · obtain rfl : k = n := by omega
      have hall : ∀ x ∈ l, del x = false := by
        intro x hx
        exact HN.out x (by rw [List.take_of_length_le (by rw [Hn.out]; exact Nat.le_refl _)]; exact hx)
      have HALL := Lib.hid hall
      clear hall
      go_wp2
      go_ret
      exact ⟨-1, rfl, .inl ⟨rfl, HALL.out⟩, HB.out⟩
end Go.Proofs.Ytnpkplegeddhcaa
