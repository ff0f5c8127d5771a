/-
  Chapter 20, in plain words: where each pick stands among the stocks; money's Add of two numbers that may go beyond its end.
  Conditions: as each lemma says.
-/
import Derived.Test.YtiekolbkmgdfoaaEnoughPlain
import Derived.Test.YtiekolbkmgdfoaaAcc
namespace Go.Proofs.Ytiekolbkmgdfoaa
open Go.RowKit

namespace Vl
/-- The first pick, and what is behind it. -/
theorem pk_head (nm : ByteArray) (q : Int) (r : List (ByteArray × Int)) (lack : Int) : ∀ (L : List St), (pk lack L).1 = (nm, q) :: r →
    ∃ (j : Nat) (x : St), L[j]? = some x ∧ x.nm = nm ∧ q = muchQ lack x ∧ 0 < q ∧ 0 < lack ∧ r = (pk (lack - muchW lack x) (L.drop (j + 1))).1 ∧ (pk lack L).2 = (pk (lack - muchW lack x) (L.drop (j + 1))).2 := by
  intro L
  induction L with
  | nil => intro h; simp [pk] at h
  | cons x L ih =>
    intro h
    simp only [pk] at h ⊢
    by_cases h0 : lack ≤ 0
    · rw [if_pos h0] at h; simp at h
    · rw [if_neg h0] at h ⊢
      by_cases h1 : 0 < muchQ lack x
      · rw [if_pos h1] at h ⊢
        simp only [List.cons.injEq, Prod.mk.injEq] at h
        obtain ⟨⟨e1, e2⟩, e3⟩ := h
        exact ⟨0, x, rfl, e1, e2.symm, by omega, by omega, by simpa using e3.symm, by simp⟩
      · rw [if_neg h1] at h ⊢
        obtain ⟨j, y, g1, g2, g3, g4, g5, g6, g7⟩ := ih h
        exact ⟨j + 1, y, by simpa using g1, g2, g3, g4, g5, by simpa using g6, by simpa using g7⟩
/-- All picks from the i-th on come from the stocks from 'at' on, with so much lacking, so much being there. -/
def Rest (want : Int) (l : List St) (o : List (ByteArray × Int)) (i at_ : Nat) (s : Int) : Prop :=
  ∃ lack : Int, lack ≤ want ∧ o.drop i = (pk lack (l.drop at_)).1 ∧ (pk lack (l.drop at_)).2 ≤ 0 ∧ s = min (want - lack) 1152921504606846976
def Apart (l : List St) (n : Nat) : Prop := ∀ i k x y, i < n → k < i → l[i]? = some x → l[k]? = some y → x.nm ≠ y.nm
theorem Rest.next {want : Int} {l : List St} {o : List (ByteArray × Int)} {i a : Nat} {s : Int} (h : Rest want l o i a s) {nm : ByteArray} {q : Int} (ho : o[i]? = some (nm, q)) (hd : Apart l l.length) :
    ∃ (b : Nat) (x : St) (z : Nat), a ≤ b ∧ b < l.length ∧ l[b]? = some x ∧ x.nm = nm ∧ (∀ k y, a ≤ k → k < b → l[k]? = some y → y.nm ≠ nm) ∧ 0 < q ∧ x.pl = true ∧ 1 ≤ x.u ∧ q % x.u = 0 ∧ q ≤ x.q ∧ Wo.wE q x.p x.c = 0 ∧ Wo.wV q x.p x.c = (z : Int) ∧ Rest want l o (i + 1) (b + 1) (min (s + z) 1152921504606846976) := by
  obtain ⟨lack, hl, h1, h2, h3⟩ := h
  have hdr : o.drop i = (nm, q) :: o.drop (i + 1) := by
    have hi := (List.getElem?_eq_some_iff.1 ho).1
    rw [List.drop_eq_getElem_cons hi]
    congr 1
    exact (List.getElem?_eq_some_iff.1 ho).2
  rw [hdr] at h1
  obtain ⟨j, x, g1, g2, g3, g4, g5, g6, g7⟩ := pk_head nm q (o.drop (i + 1)) lack _ h1.symm
  rw [List.getElem?_drop] at g1
  have hlt := (List.getElem?_eq_some_iff.1 g1).1
  have ht := took (k := lack) (x := x) (by omega)
  rw [← g3] at ht
  obtain ⟨t1, t2, t3, t4, t5, t6, t7⟩ := ht
  have hr := muchW_range lack x
  refine ⟨a + j, x, (muchW lack x).toNat, by omega, hlt, g1, g2, ?_, g4, t1, t2, t3, t4, t5, by omega, ?_⟩
  · intro k y hk1 hk2 hy e
    exact hd (a + j) k x y hlt hk2 g1 hy (by rw [g2, e])
  · rw [List.drop_drop, show a + (j + 1) = a + j + 1 from by omega] at g6 g7
    refine ⟨lack - muchW lack x, by omega, g6, by omega, ?_⟩
    omega
theorem Rest.start {want : Int} (hw : 0 ≤ want) {l : List St} (h : (pk want l).2 ≤ 0) : Rest want l (pk want l).1 0 0 0 := ⟨want, Int.le_refl _, rfl, by simpa using h, by omega⟩
theorem Rest.end_ {want : Int} (hw : want ≤ 1152921504606846976) {l : List St} {o : List (ByteArray × Int)} {i a : Nat} {s : Int} (h : Rest want l o i a s) (hi : o.length ≤ i) : want ≤ s := by
  obtain ⟨lack, h0, h1, h2, h3⟩ := h
  rw [List.drop_of_length_le hi] at h1
  have h4 : ∀ (L : List St) (k : Int), (pk k L).1 = [] → (pk k L).2 = k := by
    intro L
    induction L with
    | nil => intro k _; rfl
    | cons x L ih =>
      intro k hk
      simp only [pk] at hk ⊢
      split
      · rfl
      · rename_i g
        rw [if_neg g] at hk
        split
        · rename_i g2; rw [if_pos g2] at hk; simp at hk
        · rename_i g2; rw [if_neg g2] at hk; exact ih k hk
  have h5 := h4 _ _ h1.symm
  omega
end Vl

theorem over_any2 (g : Nat) (b : Bool) (w : World) (c0 : w.cell? ⟨g, 0, none⟩ = some (.bool b)) (f0 : w.frozen? ⟨g, 0, none⟩ = false) :
    Calls Try.prog 19 #[.pointer (some ⟨g, 0, none⟩), .bool false] w fun e w' => e = .returned (.int .i64 1152921504606846976) ∧ w.setCell ⟨g, 0, none⟩ (.bool true) = w' := by
  go_enter Try.func19, Try.ntmps19
  go_wp2
  go_ret
  exact ⟨rfl, rfl⟩

set_option maxHeartbeats 1000000 in
theorem add_over (g : Nat) (x y : Nat) (b : Bool) (A : Option Addr) (cp B : Nat) (w : World) (c0 : w.cell? ⟨g, 0, none⟩ = some (.bool b)) (f0 : w.frozen? ⟨g, 0, none⟩ = false) (hr : Reads w B 1 A 2 (ints ([x, y].map Int.ofNat))) (hx : x ≤ 1152921504606846976) (hy : y ≤ 1152921504606846976) (hs : 1152921504606846976 < x + y) :
    Calls Try.prog 10 #[.pointer (some ⟨g, 0, none⟩), .slice A 2 cp] w fun e w' => e = .returned (.int .i64 1152921504606846976) ∧ w.setCell ⟨g, 0, none⟩ (.bool true) = w' := by
  have HO := Lib.hid (over_any2 g b w c0 f0)
  have Hr := Lib.hid hr; clear hr c0 f0
  go_enter Try.func10, Try.ntmps10
  go_wp2
  go_loop [5, 6, 15] (fun hi lo i => ∃ (k s : Nat), k ≤ 2 ∧ i = .int .i64 k ∧ hi = .int .u64 0 ∧ lo = .int .u64 s ∧ ((k = 0 ∧ s = 0) ∨ (k = 1 ∧ s = x) ∨ (k = 2 ∧ s = x + y))) (fun _ _ i => 2 - (intOf i).toNat)
  case atStart => exact ⟨0, 0, by omega, rfl, rfl, rfl, .inl ⟨rfl, rfl⟩⟩
  case round =>
    obtain ⟨k, s, hk, rfl, rfl, rfl, hks⟩ := hrel
    by_cases hlt : k < 2
    · obtain ⟨ad, v, rfl, hab, hvk, hc⟩ := int_at Hr.out hlt
      obtain ⟨z, hz, rfl⟩ : ∃ z : Nat, ([x, y] : List Nat)[k]? = some z ∧ v = z := by
        simp only [List.getElem?_map, Option.map_eq_some_iff] at hvk
        obtain ⟨z, h1, h2⟩ := hvk
        exact ⟨z, h1, h2.symm⟩
      have hz2 : (k = 0 ∧ z = x) ∨ (k = 1 ∧ z = y) := by
        rcases hks with ⟨rfl, _⟩ | ⟨rfl, _⟩ | ⟨rfl, _⟩
        · left; exact ⟨rfl, by simpa using hz.symm⟩
        · right; exact ⟨rfl, by simpa using hz.symm⟩
        · omega
      have hb : s ≤ 1152921504606846976 ∧ z ≤ 1152921504606846976 := by omega
      have hst : (k + 1 = 1 ∧ s + z = x) ∨ (k + 1 = 2 ∧ s + z = x + y) := by omega
      have HST := Lib.hid hst
      have Hz := Lib.hid hz; clear hz hvk hks hst hz2
      have hsh : (z : Int) / 9223372036854775808 = 0 := by omega
      have ha := add64_small s z (by omega) w
      have ha0 := add64_none w
      go_wp2
      go_round
      case rel => exact ⟨k + 1, s + z, by omega, by go_num, rfl, by go_num, .inr HST.out⟩
      case measure => simp [intOf]; omega
    · obtain rfl : k = 2 := by omega
      have HS2 : s = x + y := by omega
      have hb : s ≤ 2305843009213693952 ∧ 1152921504606846976 < s := by omega
      have hsh : (s : Int) / 9223372036854775808 = 0 := by omega
      clear hks HS2
      go_wp2_with fail
      refine HO.out.mono ?_
      rintro e w1 ⟨rfl, rfl⟩
      go_wp2
      go_ret
      exact ⟨rfl, rfl⟩
end Go.Proofs.Ytiekolbkmgdfoaa
