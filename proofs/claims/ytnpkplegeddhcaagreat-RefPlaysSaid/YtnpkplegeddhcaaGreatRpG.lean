/-
 What the program's data and the document's data answer, beside each other, as contracts of the same answers.
 Conditions: data that have the same records.
-/
import Derived.Test.YtnpkplegeddhcaaGreatRpZ
import Derived.Test.YtnpkplegeddhcaaGreatR8n
import Derived.Test.YtnpkplegeddhcaaGreatCal3
namespace Go.Proofs.YtnpkplegeddhcaaGreat
open Go.RowKit Go.Maps Go.Shelf Kb
set_option maxRecDepth 100000

section
variable {r x : Nat} {st : Rf} {s8 : R8} {X : World}
theorem lookP (hR : RefAt r st X) (h8 : R8At x s8 X) (ha : Agree st s8) (s : ByteArray) (hs : s.size ≤ 9223372036854775807) : ∃ (z : Party) (b : Bool),
  Hid (∀ W, Below X.heap.size X W → Calls Tryz.prog 27 #[.pointer (some ⟨r, 0, none⟩), .string s] W fun e w' => e = .returned (.tuple #[.agg #[.string z.name, .int .i64 z.limit], .bool b]) ∧ Below W.heap.size W w') ∧
  Hid (∀ W, Below X.heap.size X W → Calls Tryz.prog 28 #[.pointer (some ⟨x, 0, none⟩), .string s] W fun e w' => e = .returned (.tuple #[.agg #[.string z.name, .int .i64 z.limit], .bool b]) ∧ Below W.heap.size W w') := by
 refine ⟨recAt Party st.p s, hasS st.p s, fun W hW => getP_any r st ha.ok.gp s hs W (hR.below hW), fun W hW => ?_⟩
 have h1 := lookP8_any x s8 s W (h8.below hW) (by have := (lens ha).1; omega)
 obtain ⟨h2, h3⟩ := find_eq ha.p s
 rw [h2, h3] at h1
 exact h1
theorem lookA (hR : RefAt r st X) (h8 : R8At x s8 X) (ha : Agree st s8) (s : ByteArray) (hs : s.size ≤ 9223372036854775807) : ∃ (z : Account) (b : Bool),
  Hid (∀ W, Below X.heap.size X W → Calls Tryz.prog 29 #[.pointer (some ⟨r, 0, none⟩), .string s] W fun e w' => e = .returned (.tuple #[.agg #[.string z.name, .string z.party], .bool b]) ∧ Below W.heap.size W w') ∧
  Hid (∀ W, Below X.heap.size X W → Calls Tryz.prog 30 #[.pointer (some ⟨x, 0, none⟩), .string s] W fun e w' => e = .returned (.tuple #[.agg #[.string z.name, .string z.party], .bool b]) ∧ Below W.heap.size W w') := by
 refine ⟨recAt Account st.a s, hasS st.a s, fun W hW => getC_any r st ha.ok.ga s hs W (hR.below hW), fun W hW => ?_⟩
 have h1 := lookA8_any x s8 s W (h8.below hW) (by have := (lens ha).2.1; omega)
 obtain ⟨h2, h3⟩ := find_eq ha.a s
 rw [h2, h3] at h1
 exact h1
theorem lookS (hR : RefAt r st X) (h8 : R8At x s8 X) (ha : Agree st s8) (s : ByteArray) (hs : s.size ≤ 9223372036854775807) : ∃ (z : Asset) (b : Bool),
  Hid (∀ W, Below X.heap.size X W → Calls Tryz.prog 31 #[.pointer (some ⟨r, 0, none⟩), .string s] W fun e w' => e = .returned (.tuple #[.agg #[.string z.name, .bool z.cash, .bool z.pledge, .int .i64 z.unit, .int .i64 z.least, .int .i64 z.price, .int .i64 z.cut, .int .i64 z.close], .bool b]) ∧ Below W.heap.size W w') ∧
  Hid (∀ W, Below X.heap.size X W → Calls Tryz.prog 32 #[.pointer (some ⟨x, 0, none⟩), .string s] W fun e w' => e = .returned (.tuple #[.agg #[.string z.name, .bool z.cash, .bool z.pledge, .int .i64 z.unit, .int .i64 z.least, .int .i64 z.price, .int .i64 z.cut, .int .i64 z.close], .bool b]) ∧ Below W.heap.size W w') := by
 refine ⟨recAt Asset st.s s, hasS st.s s, fun W hW => getN_any r st ha.ok.gs s hs W (hR.below hW), fun W hW => ?_⟩
 have h1 := lookS8_any x s8 s W (h8.below hW) (by have := (lens ha).2.2.1; omega)
 obtain ⟨h2, h3⟩ := find_eq ha.s s
 rw [h2, h3] at h1
 exact h1
theorem lookD (hR : RefAt r st X) (h8 : R8At x s8 X) (ha : Agree st s8) {d : Int} (hd : -9223372036854775808 ≤ d ∧ d ≤ 9223372036854775807) : ∃ (cc : Nat) (b : Bool) (z : Int), X.cell? ⟨r, 0, none⟩ = some (.pointer (some ⟨cc, 0, none⟩)) ∧
  Hid (∀ W, Below X.heap.size X W → Calls Tryz.prog 33 #[.pointer (some ⟨cc, 0, none⟩), .int .i64 d] W fun e w' => e = .returned (.bool b) ∧ Below W.heap.size W w') ∧
  Hid (∀ W, Below X.heap.size X W → Calls Tryz.prog 34 #[.pointer (some ⟨x, 0, none⟩), .int .i64 d] W fun e w' => e = .returned (.bool b) ∧ Below W.heap.size W w') ∧
  Hid (∀ W, Below X.heap.size X W → Calls Tryz.prog 35 #[.pointer (some ⟨cc, 0, none⟩), .int .i64 d] W fun e w' => e = .returned (.int .i64 z) ∧ Below W.heap.size W w') ∧
  Hid (∀ W, Below X.heap.size X W → Calls Tryz.prog 36 #[.pointer (some ⟨x, 0, none⟩), .int .i64 d] W fun e w' => e = .returned (.int .i64 z) ∧ Below W.heap.size W w') := by
 obtain ⟨c, vp, va, vs, h1, _, _, _, _, _, h5, _⟩ := hR
 have hl := (lens ha).2.2.2
 have hx8 : ∀ W, Below X.heap.size X W → ∃ A cp, W.cell? ⟨x, 0, none⟩ = some (.slice A s8.l.length cp) ∧ Reads W W.heap.size 1 A s8.l.length (ints s8.l) := fun W hW => by
  obtain ⟨vl, vp, va, vs, g1, ⟨A, cp, g2, _, g4, _⟩, _⟩ := h8.below hW
  exact ⟨A, cp, by rw [Lib.cell_of_heap g1, ← g2]; rfl, g4⟩
 refine ⟨c, isB st.h d, Dy.next (isB st.h) d, by rw [Lib.cell_of_heap h1]; rfl, fun W hW => is_any c st.h d hd.1 hd.2 W (h5.below hW), fun W hW => ?_, fun W hW => next_any c st.h d hd.1 hd.2 W (h5.below hW), fun W hW => ?_⟩
 ·obtain ⟨A, cp, g1, g2⟩ := hx8 W hW
  refine (is8_any x s8.l A s8.l.length cp W.heap.size d W rfl g1 g2 (by omega)).mono ?_
  rintro e w' ⟨rfl, rfl⟩
  exact ⟨by rw [isI_eq ha], Below.refl _ _⟩
 ·obtain ⟨A, cp, g1, g2⟩ := hx8 W hW
  refine (next8_any x s8.l A s8.l.length cp W.heap.size d W rfl g1 g2 (by omega) hd.2).mono ?_
  rintro e w' ⟨rfl, hw⟩
  subst hw
  exact ⟨by rw [isI_eq ha], Below.refl _ _⟩
theorem own_slice {w : World} {B size n : Nat} {e : TypeId} {v : Value} {xs : List Value} (h : w.ownsRow B e size v n xs) : ∃ A c, v = .slice A n c := by
 rcases h.2 with ⟨rfl, rfl⟩ | ⟨g, cap, cur, rfl, _⟩
 ·exact ⟨none, 0, rfl⟩
 ·exact ⟨_, _, rfl⟩
theorem lists (hR : RefAt r st X) (ha : Agree st s8) (s : ByteArray) :
  Hid (∀ W, Below X.heap.size X W → Calls Tryz.prog 37 #[.pointer (some ⟨r, 0, none⟩)] W fun e w' => ∃ A c, e = .returned (.slice A s8.p.length c) ∧ w'.ownsRow X.heap.size 84 2 (.slice A s8.p.length c) s8.p.length (cellsOf s8.p) ∧ Below W.heap.size W w') ∧
  Hid (∀ W p, Below X.heap.size X W → Calls Tryz.prog 38 #[.pointer (some ⟨r, 0, none⟩), .string p] W fun e w' => ∃ A c, e = .returned (.slice A (accs8 s8 p).length c) ∧ w'.ownsRow X.heap.size 88 2 (.slice A (accs8 s8 p).length c) (accs8 s8 p).length (cellsOf (accs8 s8 p)) ∧ Below W.heap.size W w') ∧
  Hid (∀ W, Below X.heap.size X W → Calls Tryz.prog 39 #[.pointer (some ⟨r, 0, none⟩)] W fun e w' => ∃ A c, e = .returned (.slice A s8.s.length c) ∧ w'.ownsRow X.heap.size 92 8 (.slice A s8.s.length c) s8.s.length (cellsOf s8.s) ∧ Below W.heap.size W w') := by
 refine ⟨fun W hW => ?_, fun W p hW => ?_, fun W hW => ?_⟩
 ·have h := allP_any r st ha.ok W (hR.below hW)
  rw [rowsP_eq ha] at h
  refine h.mono ?_
  rintro e w' ⟨u, rfl, ho, hb⟩
  obtain ⟨A, c, rfl⟩ := own_slice ho
  exact ⟨A, c, rfl, own_low ho hW.size, hb⟩
 ·have h := accounts_any r st ha.ok p W (hR.below hW)
  rw [own_eq ha] at h
  refine h.mono ?_
  rintro e w' ⟨u, rfl, ho, hb⟩
  obtain ⟨A, c, rfl⟩ := own_slice ho
  exact ⟨A, c, rfl, own_low ho hW.size, hb⟩
 ·have h := allS_any r st ha.ok W (hR.below hW)
  rw [rowsS_eq ha] at h
  refine h.mono ?_
  rintro e w' ⟨u, rfl, ho, hb⟩
  obtain ⟨A, c, rfl⟩ := own_slice ho
  exact ⟨A, c, rfl, own_low ho hW.size, hb⟩
/-- The document's lists, compared. -/
theorem accs8_nil (s8 : R8) : accs8 s8 ⟨#[]⟩ = s8.a := by
 unfold accs8 delB
 rw [List.filter_eq_self]
 intro y _
 have h : (⟨#[]⟩ : ByteArray).toList.isEmpty = true := by
  unfold ByteArray.toList
  unfold ByteArray.toList.loop
  rfl
 rw [h]
 rfl
theorem sames (hR : RefAt r st X) (h8 : R8At x s8 X) (ha : Agree st s8) (s : ByteArray) : ∃ (Ap Aa As : Option Addr) (cp ca cs : Nat), X.cell? ⟨x, 1, none⟩ = some (.slice Ap s8.p.length cp) ∧ X.cell? ⟨x, 2, none⟩ = some (.slice Aa s8.a.length ca) ∧ X.cell? ⟨x, 3, none⟩ = some (.slice As s8.s.length cs) ∧
  Hid (∀ W N A c, Below X.heap.size X W → W.ownsRow N 84 2 (.slice A s8.p.length c) s8.p.length (cellsOf s8.p) → Calls Tryz.prog 43 #[.slice A s8.p.length c, .slice Ap s8.p.length cp] W fun e w' => e = .returned (.bool true) ∧ Below W.heap.size W w') ∧
  Hid (∀ W, Below X.heap.size X W → Calls Tryz.prog 45 #[.pointer (some ⟨x, 0, none⟩), .string s] W fun e w' => ∃ A c, e = .returned (.slice A (accs8 s8 s).length c) ∧ w'.ownsRow 0 88 2 (.slice A (accs8 s8 s).length c) (accs8 s8 s).length (cellsOf (accs8 s8 s)) ∧ Below W.heap.size W w') ∧
  Hid (∀ W N N' A A' c c', W.ownsRow N 88 2 (.slice A (accs8 s8 s).length c) (accs8 s8 s).length (cellsOf (accs8 s8 s)) → W.ownsRow N' 88 2 (.slice A' (accs8 s8 s).length c') (accs8 s8 s).length (cellsOf (accs8 s8 s)) → Calls Tryz.prog 44 #[.slice A (accs8 s8 s).length c, .slice A' (accs8 s8 s).length c'] W fun e w' => e = .returned (.bool true) ∧ Below W.heap.size W w') ∧
  Hid (∀ W N A c, Below X.heap.size X W → W.ownsRow N 92 8 (.slice A s8.s.length c) s8.s.length (cellsOf s8.s) → Calls Tryz.prog 46 #[.slice A s8.s.length c, .slice As s8.s.length cs] W fun e w' => e = .returned (.bool true) ∧ Below W.heap.size W w') ∧
  Hid (∀ W, Below X.heap.size X W → Calls Tryz.prog 38 #[.pointer (some ⟨r, 0, none⟩), .string ⟨#[]⟩] W fun e w' => ∃ A c, e = .returned (.slice A s8.a.length c) ∧ w'.ownsRow 0 88 2 (.slice A s8.a.length c) s8.a.length (cellsOf s8.a) ∧ Below W.heap.size W w') ∧
  Hid (∀ W N A c, Below X.heap.size X W → W.ownsRow N 88 2 (.slice A s8.a.length c) s8.a.length (cellsOf s8.a) → Calls Tryz.prog 44 #[.slice A s8.a.length c, .slice Aa s8.a.length ca] W fun e w' => e = .returned (.bool true) ∧ Below W.heap.size W w') := by
 obtain ⟨l1, l2, l3, _⟩ := lens ha
 obtain ⟨vl, vp, va, vs, h1, _, ⟨Ap, cp, rfl, _, rp, _⟩, ⟨Aa, ca, rfl, _, ra, _⟩, ⟨As, cs, rfl, _, rs, _⟩⟩ := id h8
 refine ⟨Ap, Aa, As, cp, ca, cs, by rw [Lib.cell_of_heap h1]; rfl, by rw [Lib.cell_of_heap h1]; rfl, by rw [Lib.cell_of_heap h1]; rfl, fun W N A c hW ho => ?_, fun W hW => ?_, fun W N N' A A' c c' ho ho' => ?_, fun W N A c hW ho => ?_, fun W hW => ?_, fun W N A c hW ho => ?_⟩
 ·refine (KPa.same_any s8.p _ rfl (by omega) A Ap c cp W.heap.size X.heap.size W (Reads.of_own ho) ((rp.reads (fun _ _ => rfl)).below hW)).mono ?_
  rintro e w' ⟨rfl, q, rfl⟩
  exact ⟨rfl, drewN_below (Below.refl _ _) q⟩
 ·refine (accs8_any x s8 s W (h8.below hW) (by omega)).mono ?_
  rintro e w' ⟨u, rfl, ho, hb⟩
  obtain ⟨A, c, rfl⟩ := own_slice ho
  exact ⟨A, c, rfl, own_base0 ho, hb⟩
 ·refine (KAc.same_any (accs8 s8 s) _ rfl (by have := List.length_filter_le (fun y => !delB s y) s8.a; unfold accs8; omega) A A' c c' W.heap.size W.heap.size W (Reads.of_own ho) (Reads.of_own ho')).mono ?_
  rintro e w' ⟨rfl, q, rfl⟩
  exact ⟨rfl, drewN_below (Below.refl _ _) q⟩
 ·refine (KAs.same_any s8.s _ rfl (by omega) A As c cs W.heap.size X.heap.size W (Reads.of_own ho) ((rs.reads (fun _ _ => rfl)).below hW)).mono ?_
  rintro e w' ⟨rfl, q, rfl⟩
  exact ⟨rfl, drewN_below (Below.refl _ _) q⟩
 ·have h := accounts_any r st ha.ok ⟨#[]⟩ W (hR.below hW)
  rw [own_eq ha, accs8_nil] at h
  refine h.mono ?_
  rintro e w' ⟨u, rfl, ho, hb⟩
  obtain ⟨A, c, rfl⟩ := own_slice ho
  exact ⟨A, c, rfl, own_base0 ho, hb⟩
 ·refine (KAc.same_any s8.a _ rfl (by omega) A Aa c ca W.heap.size X.heap.size W (Reads.of_own ho) ((ra.reads (fun _ _ => rfl)).below hW)).mono ?_
  rintro e w' ⟨rfl, q, rfl⟩
  exact ⟨rfl, drewN_below (Below.refl _ _) q⟩
end
end Go.Proofs.YtnpkplegeddhcaaGreat
