/-
 A struct that is loaded, and two that are the same, compared, in a region that draws its order.
 Conditions: none beyond each lemma's own premises.
-/
import Derived.Test.YtnpkplegeddhcaaGreatRpAg
import Derived.Test.YtnpkplegeddhcaaGreatKbPaL
import Derived.Test.YtnpkplegeddhcaaGreatKbAcL
import Derived.Test.YtnpkplegeddhcaaGreatKbAsL
import Derived.Test.YtnpkplegeddhcaaGreatRefDel2
import Derived.Test.YtnpkplegeddhcaaGreatR8j
import Derived.Test.YtnpkplegeddhcaaGreatBk8
import Derived.OrdersHeld
namespace Go.Proofs.YtnpkplegeddhcaaGreat
open Go.RowKit Go.Maps Go.Shelf Kb
set_option maxRecDepth 100000

/-- Blocks of cells from N on stay. -/
structure Up (N : Nat) (w w' : World) : Prop where
 size : w.heap.size ≤ w'.heap.size
 block : ∀ (k : Nat) (cs : Array Value) (t : TypeId) (fr : Nat × Nat), N ≤ k → w.heap[k]? = some (.cells cs t fr) → w'.heap[k]? = some (.cells cs t fr)
theorem Up.refl (N : Nat) (w : World) : Up N w w := ⟨Nat.le_refl _, fun _ _ _ _ _ h => h⟩
theorem Up.trans {N : Nat} {a b c : World} (h : Up N a b) (h' : Up N b c) : Up N a c := ⟨Nat.le_trans h.size h'.size, fun k cs t fr hk hb => h'.block k cs t fr hk (h.block k cs t fr hk hb)⟩
theorem Up.of_below {N : Nat} {w w' : World} (h : Below w.heap.size w w') : Up N w w' := ⟨h.size, fun k _ _ _ _ hb => (h.block k (Array.getElem?_eq_some_iff.1 hb).1).trans hb⟩
theorem Up.of_mv {N : Nat} {S S' : List Nat} {w w' : World} (h : Mv S S' w w') (hS : ∀ k ∈ S, k < N) : Up N w w' := ⟨h.size, fun k _ _ _ hk hb => (h.block k (Array.getElem?_eq_some_iff.1 hb).1 (fun e => by have := hS k e; omega)).trans hb⟩
theorem Up.of_ck {N : Nat} {w w' : World} (h : CK w w') (hs : w.heap.size ≤ w'.heap.size) : Up N w w' := ⟨hs, fun k cs t fr _ hb => h k cs t fr hb⟩
theorem Up.cell {N : Nat} {w w' : World} (h : Up N w w') {a : Addr} {v : Value} (ha : N ≤ a.block) (hc : w.cell? a = some v) : w'.cell? a = some v := by
 obtain ⟨cs, t, fr, hb, _⟩ := cell_obj hc
 rw [World.cell?_of_block (w := w) (w' := w') ((h.block _ cs t fr ha hb).trans hb.symm)]
 exact hc
theorem Up.reads {N B sz n g : Nat} {w w' : World} {xs : List Value} (h : Up N w w') (hg : N ≤ g) (hr : Reads w B sz (some ⟨g, 0, none⟩) n xs) : Reads w' B sz (some ⟨g, 0, none⟩) n xs := ⟨hr.1, fun hn => by
 obtain ⟨ad, e, hb, hc⟩ := hr.2 hn
 injection e with e
 subst e
 exact ⟨_, rfl, hb, fun j u hu => h.cell (by rw [block_of_add]; exact hg) (hc j u hu)⟩⟩
theorem RowsAt.low {α : Type} [Kd α] {w : World} {B B' N : Nat} {A : Option Addr} {l : List α} (h : RowsAt w B A N l) (hB : B ≤ B') : RowsAt w B' A N l := ⟨fun hn => by
 obtain ⟨ad, e, hb, hc⟩ := h.row hn
 exact ⟨ad, e, by omega, hc⟩⟩
/-- Rows that a list's cells hold, with one more behind them. -/
theorem rows_head {α : Type} [Kd α] {sz : Nat} (hs : ∀ x : α, (Kd.val x).cells.toList.length = sz) (hp : 0 < sz) {w : World} {B n : Nat} {A : Option Addr} {l : List α} {z : α} (h : Reads w B sz A n (cellsOf (l ++ [z]))) : RowsAt w B A sz l := ⟨fun hn => by
 have h1 : n = l.length + 1 := by
  have h2 := h.1
  rw [show cellsOf (l ++ [z]) = cs (fun x : α => (Kd.val x).cells.toList) (l ++ [z]) from rfl, cs_len hs, List.length_append] at h2
  exact (Nat.eq_of_mul_eq_mul_right hp h2).symm
 obtain ⟨ad, e, hb, hc⟩ := h.2 (by omega)
 refine ⟨ad, e, hb, fun k x hx j v hv => ?_⟩
 rw [add_of_add]
 refine hc _ _ (cs_get (ec := fun x : α => (Kd.val x).cells.toList) hs (l ++ [z]) k x ?_ j v (by simpa using hv))
 rw [List.getElem?_append_left (List.getElem?_eq_some_iff.1 hx).1]
 exact hx⟩

def rowsOk {E : Type} (k : Nat) (L : List (KRow E)) : Prop := L.length = k ∧ ∀ q ∈ L, q.mm = q.ss ∧ q.ss.length ≤ 10000000
theorem rowsOk_nil {E : Type} : rowsOk 0 ([] : List (KRow E)) := ⟨rfl, by simp⟩
theorem rowsOk_snoc {E : Type} {k : Nat} {L : List (KRow E)} (h : rowsOk k L) {v m : Value} {ss : List E} (hs : ss.length ≤ 10000000) : rowsOk (k + 1) (L ++ [⟨v, ss, m, ss⟩]) := by
 refine ⟨by rw [List.length_append, h.1]; rfl, fun q hq => ?_⟩
 rcases List.mem_append.1 hq with h1 | h1
 ·exact h.2 q h1
 ·obtain rfl := List.mem_singleton.1 h1
  exact ⟨rfl, hs⟩
/-- All of it beside each other; what the book's blocks lie under. -/
structure Wb (B r x g kp ka ks Mp Ma Ms : Nat) (st : Rf) (s8 : R8) (w : World) : Prop where
 ex : ∃ bc tp wp ta wa ts ws Lp La Ls, Pl B r x g st s8 bc tp wp ta wa ts ws Lp La Ls w ∧ rowsOk kp Lp ∧ rowsOk ka La ∧ rowsOk ks Ls ∧ (∀ k ∈ bkBlocks g tp wp Lp, k < Mp) ∧ (∀ k ∈ bkBlocks g ta wa La, k < Ma) ∧ (∀ k ∈ bkBlocks g ts ws Ls, k < Ms)
section
variable {B r x g kp ka ks Mp Ma Ms : Nat} {st : Rf} {s8 : R8} {w w' : World}
theorem Wb.below (h : Wb B r x g kp ka ks Mp Ma Ms st s8 w) (hb : Below w.heap.size w w') : Wb B r x g kp ka ks Mp Ma Ms st s8 w' := by
 obtain ⟨bc, tp, wp, ta, wa, ts, ws, Lp, La, Ls, hp, h1⟩ := h.ex
 exact ⟨bc, tp, wp, ta, wa, ts, ws, Lp, La, Ls, hp.below hb, h1⟩
theorem Wb.here (h : Wb B r x g kp ka ks Mp Ma Ms st s8 w) : Wb B r x g kp ka ks w.heap.size w.heap.size w.heap.size st s8 w := by
 obtain ⟨bc, tp, wp, ta, wa, ts, ws, Lp, La, Ls, hp, h1, h2, h3, _⟩ := h.ex
 exact ⟨bc, tp, wp, ta, wa, ts, ws, Lp, La, Ls, hp, h1, h2, h3, hp.bk.p.there, hp.bk.a.there, hp.bk.s.there⟩
theorem Wb.ref (h : Wb B r x g kp ka ks Mp Ma Ms st s8 w) : RefAt r st w := by
 obtain ⟨_, _, _, _, _, _, _, _, _, _, hp, _⟩ := h.ex
 exact hp.ref
theorem Wb.low (h : Wb B r x g kp ka ks Mp Ma Ms st s8 w) : Lows B r w := by
 obtain ⟨_, _, _, _, _, _, _, _, _, _, hp, _⟩ := h.ex
 exact hp.low
theorem Wb.dat (h : Wb B r x g kp ka ks Mp Ma Ms st s8 w) : R8At x s8 w := by
 obtain ⟨_, _, _, _, _, _, _, _, _, _, hp, _⟩ := h.ex
 exact hp.dat
theorem Wb.sz (h : Wb B r x g kp ka ks Mp Ma Ms st s8 w) : B ≤ w.heap.size ∧ B ≤ r ∧ B ≤ x := by
 obtain ⟨_, _, _, _, _, _, _, _, _, _, hp, _⟩ := h.ex
 exact ⟨hp.sz, hp.br, hp.bx⟩
/-- The program's calendar. -/
theorem Wb.cal (h : Wb B r x g kp ka ks Mp Ma Ms st s8 w) : ∃ c, w.cell? ⟨r, 0, none⟩ = some (.pointer (some ⟨c, 0, none⟩)) ∧ CalAt c st.h w ∧ B ≤ c ∧ c ≠ r := by
 obtain ⟨c, vp, va, vs, h1, _, _, _, _, _, h5, h6⟩ := h.ref
 refine ⟨c, by rw [Lib.cell_of_heap h1]; rfl, h5, ?_, h6⟩
 obtain ⟨c', vp', va', vs', h2, _, _, _, h3⟩ := h.low
 rw [h1] at h2
 injection h2 with h2
 injection h2 with h2 _ _
 injection h2 with h2
 injection h2 with h2 _
 exact h3 c h2.symm
variable {N : Nat}
/-- What a call does to the others. -/
def Did (B r x g kp ka ks N : Nat) (st : Rf) (s8 : R8) (w w' : World) : Prop := (∃ Mp Ma Ms, Wb B r x g kp ka ks Mp Ma Ms st s8 w') ∧ Up N w w' ∧ Below B w w'
theorem wl_addP (h : Wb B r x g kp ka ks Mp Ma Ms st s8 w) (hr : r < N) (hok : st.Ok) {l : List Party} {A : Option Addr} {c : Nat} (hrow : RowsAt w w.heap.size A 2 l) (hl : l.length ≤ 60) :
  Calls Tryz.prog 11 #[.pointer (some ⟨r, 0, none⟩), .slice A l.length c] w fun e w' => e = .returned (.int .i64 (errP st l)) ∧ Did B r x g kp ka ks N (addP st l) s8 w w' := by
 obtain ⟨bc, tp, wp, ta, wa, ts, ws, Lp, La, Ls, hp, h1⟩ := h.ex
 refine (addParties_any r st hok l A c w hp.ref hrow (by omega)).mono ?_
 rintro e w' ⟨rfl, hk, hm⟩
 obtain ⟨g1, g2⟩ := hp.refMv hm hk
 exact ⟨rfl, ⟨_, _, _, ⟨bc, tp, wp, ta, wa, ts, ws, Lp, La, Ls, g1, h1⟩⟩, Up.of_mv hm.mv (by simpa using hr), g2⟩
theorem wl_addC (h : Wb B r x g kp ka ks Mp Ma Ms st s8 w) (hr : r < N) (hok : st.Ok) {l : List Account} {A : Option Addr} {c : Nat} (hrow : RowsAt w w.heap.size A 2 l) (hl : l.length ≤ 60) (hx : ∀ y ∈ l, y.party.size ≤ 9223372036854775807) :
  Calls Tryz.prog 15 #[.pointer (some ⟨r, 0, none⟩), .slice A l.length c] w fun e w' => e = .returned (.int .i64 (errC st l)) ∧ Did B r x g kp ka ks N (addC st l) s8 w w' := by
 obtain ⟨bc, tp, wp, ta, wa, ts, ws, Lp, La, Ls, hp, h1⟩ := h.ex
 refine (addAccounts_any r st hok l A c w hp.ref hrow (by omega) hx).mono ?_
 rintro e w' ⟨rfl, hk, hm⟩
 obtain ⟨g1, g2⟩ := hp.refMv hm hk
 exact ⟨rfl, ⟨_, _, _, ⟨bc, tp, wp, ta, wa, ts, ws, Lp, La, Ls, g1, h1⟩⟩, Up.of_mv hm.mv (by simpa using hr), g2⟩
theorem wl_addS (h : Wb B r x g kp ka ks Mp Ma Ms st s8 w) (hr : r < N) (hok : st.Ok) {l : List Asset} {A : Option Addr} {c : Nat} (hrow : RowsAt w w.heap.size A 8 l) (hl : l.length ≤ 60) :
  Calls Tryz.prog 19 #[.pointer (some ⟨r, 0, none⟩), .slice A l.length c] w fun e w' => e = .returned (.int .i64 (errS st l)) ∧ Did B r x g kp ka ks N (addS' st l) s8 w w' := by
 obtain ⟨bc, tp, wp, ta, wa, ts, ws, Lp, La, Ls, hp, h1⟩ := h.ex
 refine (addAssets_any r st hok l A c w hp.ref hrow (by omega)).mono ?_
 rintro e w' ⟨rfl, hk, hm⟩
 obtain ⟨g1, g2⟩ := hp.refMv hm hk
 exact ⟨rfl, ⟨_, _, _, ⟨bc, tp, wp, ta, wa, ts, ws, Lp, La, Ls, g1, h1⟩⟩, Up.of_mv hm.mv (by simpa using hr), g2⟩
theorem wl_setLi (h : Wb B r x g kp ka ks Mp Ma Ms st s8 w) (ha : Agree st s8) {s : ByteArray} (hs : s.size ≤ 9223372036854775807) (n : Int) :
  Calls Tryz.prog 24 #[.pointer (some ⟨r, 0, none⟩), .string s, .int .i64 n] w fun e w' => e = .returned (.int .i64 (errLi st s n)) ∧ Did B r x g kp ka ks N (setLi st s n) s8 w w' := by
 obtain ⟨bc, tp, wp, ta, wa, ts, ws, Lp, La, Ls, hp, h1⟩ := h.ex
 refine (setLimit_any B r st ha.ok (ne_size ha) s hs ?_ n w hp.ref hp.low hp.br).mono ?_
 ·by_cases hh : hasS st.p s = true
  ·have hk : (recAt Party st.p s).name = s := (key_rec ha.p hh).1
   rw [hk]; exact hs
  ·rw [recAt_none (by simpa using hh)]; decide
 rintro e w' ⟨rfl, hk, hb, hl, hc⟩
 exact ⟨rfl, ⟨_, _, _, ⟨bc, tp, wp, ta, wa, ts, ws, Lp, La, Ls, hp.ck hc hk hl hb, h1⟩⟩, Up.of_ck hc hb.size, hb⟩
theorem wl_setPr (h : Wb B r x g kp ka ks Mp Ma Ms st s8 w) (ha : Agree st s8) {s : ByteArray} (hs : s.size ≤ 9223372036854775807) (n : Int) :
  Calls Tryz.prog 22 #[.pointer (some ⟨r, 0, none⟩), .string s, .int .i64 n] w fun e w' => e = .returned (.int .i64 (errPr st s n)) ∧ Did B r x g kp ka ks N (setPr st s n) s8 w w' := by
 obtain ⟨bc, tp, wp, ta, wa, ts, ws, Lp, La, Ls, hp, h1⟩ := h.ex
 refine (setPrice_all B r st ha.ok s hs (fun hh => ?_) n w hp.ref hp.low hp.br).mono ?_
 ·have hk : (recAt Asset st.s s).name = s := (key_rec ha.s hh).1
  rw [hk]; exact hs
 rintro e w' ⟨rfl, hk, hb, hl, hc⟩
 exact ⟨rfl, ⟨_, _, _, ⟨bc, tp, wp, ta, wa, ts, ws, Lp, La, Ls, hp.ck hc hk hl hb, h1⟩⟩, Up.of_ck hc hb.size, hb⟩
theorem wl_close (h : Wb B r x g kp ka ks Mp Ma Ms st s8 w) (ha : Agree st s8) {c : Nat} (hc : w.cell? ⟨r, 0, none⟩ = some (.pointer (some ⟨c, 0, none⟩))) (hcN : c < N) {l : List Int} {A : Option Addr} {cp : Nat} (hrow : Reads w w.heap.size 1 A l.length (ints l)) (hl : l.length ≤ 1000) (hv : ∀ v ∈ l, -9223372036854775808 ≤ v ∧ v ≤ 9223372036854775807) :
  Calls Tryz.prog 26 #[.pointer (some ⟨c, 0, none⟩), .slice A l.length cp] w fun e w' => e = .returned (.int .i64 (errMore st.h l)) ∧ Did B r x g kp ka ks N ⟨st.p, st.a, st.s, outD st.h l⟩ s8 w w' ∧ w'.cell? ⟨r, 0, none⟩ = some (.pointer (some ⟨c, 0, none⟩)) := by
 obtain ⟨c', hc', hcal, hB, hne⟩ := h.cal
 rw [hc] at hc'
 obtain rfl : c = c' := by injection hc' with e; injection e with e; injection e with e; injection e
 obtain ⟨bc, tp, wp, ta, wa, ts, ws, Lp, La, Ls, hp, h1⟩ := h.ex
 refine (close_any c st.h l A cp w hcal ha.hh hrow (by omega) hv).mono ?_
 rintro e w' ⟨rfl, hk, hm⟩
 have hcal0 := hcal
 obtain ⟨b, n, h9, h10⟩ := hcal0
 have hkeep : ∀ k, k < w.heap.size → k ≠ c → w'.heap[k]? = w.heap[k]? := fun k hk hn => hm.block k hk (by simpa using hn)
 have hr' : RefAt r ⟨st.p, st.a, st.s, outD st.h l⟩ w' := by
  have hlt := hp.ref.lt
  obtain ⟨c2, vp, va, vs, g1, gp, ga, g2, g3, g4, g5, g6⟩ := hp.ref
  have e0 : w.cell? ⟨r, 0, none⟩ = some (.pointer (some ⟨c2, 0, none⟩)) := by rw [Lib.cell_of_heap g1]; rfl
  rw [hc] at e0
  obtain rfl : c = c2 := by injection e0 with e; injection e with e; injection e with e; injection e
  have keep : ∀ {α : Type} [Kd α] {v : Value} {D : DataW Unit}, MapAt α v D w → MapAt α v D w' := by
   intro α _ v D hm2
   rcases hm2 with h | ⟨q, h7, h8⟩
   ·exact .inl h
   ·have hq := blk_own_ne h8 h9
    exact .inr ⟨q, h7, own_keep h8 (hkeep q h8.lt hq)⟩
  exact ⟨c, vp, va, vs, (hkeep r hlt (fun e => g6 e.symm)).trans g1, gp, ga, keep g2, keep g3, keep g4, hk, g6⟩
 have hl' : Lows B r w' := by
  have hlt := hp.low.lt
  obtain ⟨c2, vp, va, vs, g1, g2⟩ := hp.low
  exact ⟨c2, vp, va, vs, (hkeep r hlt (fun e => hne e.symm)).trans g1, g2⟩
 obtain ⟨q1, q2⟩ := hp.calMv h9 hB hm hr' hl'
 exact ⟨rfl, ⟨⟨_, _, _, ⟨bc, tp, wp, ta, wa, ts, ws, Lp, La, Ls, q1, h1⟩⟩, Up.of_mv hm (by simpa using hcN), q2⟩, (World.cell?_of_block (w := w) (w' := w') (hkeep r hp.ref.lt (fun e => hne e.symm))).trans hc⟩
/-- The document's calls. -/
theorem wl_dat (h : Wb B r x g kp ka ks Mp Ma Ms st s8 w) {s9 : R8} (hx : x < N) (hm : Mv [x] [x] w w') (hd : R8At x s9 w') : Did B r x g kp ka ks N st s9 w w' := by
 obtain ⟨bc, tp, wp, ta, wa, ts, ws, Lp, La, Ls, hp, h1⟩ := h.ex
 obtain ⟨q1, q2⟩ := hp.datMv hm hd
 exact ⟨⟨_, _, _, ⟨bc, tp, wp, ta, wa, ts, ws, Lp, La, Ls, q1, h1⟩⟩, Up.of_mv hm (by simpa using hx), q2⟩
theorem wl_addP8 (h : Wb B r x g kp ka ks Mp Ma Ms st s8 w) {st0 : Rf} (ha : Agree st0 s8) (hx : x < N) {l : List Party} {A : Option Addr} {c : Nat} (hrow : RowsAt w B A 2 l) (hl : l.length ≤ 60) (hn : ∀ z ∈ l, z.name.size ≤ 9223372036854775807) :
  Calls Tryz.prog 12 #[.pointer (some ⟨x, 0, none⟩), .slice A l.length c] w fun e w' => e = .returned (.int .i64 (errsP8 s8 l)) ∧ Did B r x g kp ka ks N st (addsP8 s8 l) w w' := by
 obtain ⟨l1, l2, l3, _⟩ := lens ha
 obtain ⟨z1, z2, z3⟩ := h.sz
 refine (addsP8_any x s8 l A c w h.dat (hrow.low z1) (fun hl ad e => ?_) (by omega) (by omega) (by omega) (by omega) ha.np hn).mono ?_
 ·obtain ⟨ad', e', hb, _⟩ := hrow.row hl
  rw [e] at e'
  injection e' with e'
  subst e'
  omega
 rintro e w' ⟨rfl, hk, hm⟩
 exact ⟨rfl, wl_dat h hx hm hk⟩
theorem wl_addA8 (h : Wb B r x g kp ka ks Mp Ma Ms st s8 w) {st0 : Rf} (ha : Agree st0 s8) (hx : x < N) {l : List Account} {A : Option Addr} {c : Nat} (hrow : RowsAt w B A 2 l) (hl : l.length ≤ 60) (hn : ∀ z ∈ l, z.name.size ≤ 9223372036854775807) :
  Calls Tryz.prog 16 #[.pointer (some ⟨x, 0, none⟩), .slice A l.length c] w fun e w' => e = .returned (.int .i64 (errsA8 s8 l)) ∧ Did B r x g kp ka ks N st (addsA8 s8 l) w w' := by
 obtain ⟨l1, l2, l3, _⟩ := lens ha
 obtain ⟨z1, z2, z3⟩ := h.sz
 refine (addsA8_any x s8 l A c w h.dat (hrow.low z1) (fun hl ad e => ?_) (by omega) (by omega) (by omega) (by omega) ha.na hn).mono ?_
 ·obtain ⟨ad', e', hb, _⟩ := hrow.row hl
  rw [e] at e'
  injection e' with e'
  subst e'
  omega
 rintro e w' ⟨rfl, hk, hm⟩
 exact ⟨rfl, wl_dat h hx hm hk⟩
theorem wl_addS8 (h : Wb B r x g kp ka ks Mp Ma Ms st s8 w) {st0 : Rf} (ha : Agree st0 s8) (hx : x < N) {l : List Asset} {A : Option Addr} {c : Nat} (hrow : RowsAt w B A 8 l) (hl : l.length ≤ 60) (hn : ∀ z ∈ l, z.name.size ≤ 9223372036854775807) :
  Calls Tryz.prog 20 #[.pointer (some ⟨x, 0, none⟩), .slice A l.length c] w fun e w' => e = .returned (.int .i64 (errsS8 s8 l)) ∧ Did B r x g kp ka ks N st (addsS8 s8 l) w w' := by
 obtain ⟨l1, l2, l3, _⟩ := lens ha
 obtain ⟨z1, z2, z3⟩ := h.sz
 refine (addsS8_any x s8 l A c w h.dat (hrow.low z1) (fun hl ad e => ?_) (by omega) (by omega) (by omega) (by omega) ha.ns hn).mono ?_
 ·obtain ⟨ad', e', hb, _⟩ := hrow.row hl
  rw [e] at e'
  injection e' with e'
  subst e'
  omega
 rintro e w' ⟨rfl, hk, hm⟩
 exact ⟨rfl, wl_dat h hx hm hk⟩
theorem wl_setLi8 (h : Wb B r x g kp ka ks Mp Ma Ms st s8 w) {st0 : Rf} (ha : Agree st0 s8) (hx : x < N) (s : ByteArray) (n : Int) :
  Calls Tryz.prog 25 #[.pointer (some ⟨x, 0, none⟩), .string s, .int .i64 n] w fun e w' => e = .returned (.int .i64 (errLi8 s8 s n)) ∧ Did B r x g kp ka ks N st (setLi8 s8 s n) w w' := by
 obtain ⟨l1, l2, l3, _⟩ := lens ha
 refine (setLi8_any x s8 s n w h.dat (by omega)).mono ?_
 rintro e w' ⟨rfl, hk, hm⟩
 exact ⟨rfl, wl_dat h hx hm hk⟩
theorem wl_setPr8 (h : Wb B r x g kp ka ks Mp Ma Ms st s8 w) {st0 : Rf} (ha : Agree st0 s8) (hx : x < N) (s : ByteArray) (n : Int) :
  Calls Tryz.prog 23 #[.pointer (some ⟨x, 0, none⟩), .string s, .int .i64 n] w fun e w' => e = .returned (.int .i64 (errPr8 s8 s n)) ∧ Did B r x g kp ka ks N st (setPr8 s8 s n) w w' := by
 obtain ⟨l1, l2, l3, _⟩ := lens ha
 refine (setPr8_any x s8 s n w h.dat (by omega)).mono ?_
 rintro e w' ⟨rfl, hk, hm⟩
 exact ⟨rfl, wl_dat h hx hm hk⟩
theorem wl_close8 (h : Wb B r x g kp ka ks Mp Ma Ms st s8 w) {st0 : Rf} (ha : Agree st0 s8) (hx : x < N) {l : List Int} {A : Option Addr} {c : Nat} (hrow : Reads w w.heap.size 1 A l.length (ints l)) (hl : l.length ≤ 1000) :
  Calls Tryz.prog 8 #[.pointer (some ⟨x, 0, none⟩), .slice A l.length c] w fun e w' => e = .returned (.int .i64 (errC8 s8.l l)) ∧ Did B r x g kp ka ks N st ⟨outC8 s8.l l, s8.p, s8.a, s8.s⟩ w w' ∧ ∀ v, w.cell? ⟨r, 0, none⟩ = some v → w'.cell? ⟨r, 0, none⟩ = some v := by
 obtain ⟨_, _, _, l4⟩ := lens ha
 refine (close8_any x s8 l A c w h.dat hrow (by omega) (by omega)).mono ?_
 rintro e w' ⟨rfl, hk, hm⟩
 refine ⟨rfl, wl_dat h hx hm hk, fun v hv => ?_⟩
 obtain ⟨cs8, h8⟩ := h.dat.heap
 obtain ⟨c9, p9, a9, s9, h9⟩ := h.ref.heap
 exact (World.cell?_of_block (w := w) (w' := w') (hm.block r h.ref.lt (by simpa using type_ne h9 h8 (by decide)))).trans hv
/-- The book's calls. -/
theorem wl_bookP (h : Wb B r x g kp ka ks Mp Ma Ms st s8 w) (hk : kp < 250) (hBM : B ≤ Mp) {v : Value} {ss : List Party} (hv : w.ownsRow Mp 84 2 v ss.length (cellsOf ss)) (hs : ss.length ≤ 1000) :
  Calls Tryz.prog 40 #[.pointer (some ⟨g, 0, none⟩), v] w fun e w' => e = .returned (.tuple #[]) ∧ Wb B r x g (kp + 1) ka ks w'.heap.size Ma Ms st s8 w' ∧ Below B w w' ∧ ∃ S S', Mv S S' w w' ∧ (∀ k ∈ S, ∃ cs, w.heap[k]? = some (.cells cs 61 (0, 0)) ∨ w.heap[k]? = some (.cells cs 35 (0, 0))) := by
 obtain ⟨bc, tp, wp, ta, wa, ts, ws, Lp, La, Ls, hp, h1, h2, h3, h4, h5, h6⟩ := h.ex
 refine (KPa.add_any g bc tp wp Lp w hp.bk.p (by rw [h1.1]; exact hk) v ss (own_base0 hv) (by omega) (fun k hk hin => by have h7 := h4 k hin; have h8 := (hv.lt k hk).1; omega)).mono ?_
 rintro e w' ⟨rfl, tp', wp', m, hat, hm, hmf⟩
 obtain ⟨q1, q2⟩ := hp.addP hat hm (fun k hk => Nat.le_trans hBM (hv.lt k hk).1) (fun k hk => Nat.le_trans hp.sz (hmf k hk))
 refine ⟨rfl, ⟨_, tp', wp', ta, wa, ts, ws, _, La, Ls, q1, rowsOk_snoc h1 (by omega), h2, h3, q1.bk.p.there, h5, h6⟩, q2, _, _, hm, fun k hk => ?_⟩
 obtain ⟨cs, t, fr, h7, h8, _⟩ := head_slices hp.bk.p hp.bk.slices hk
 simp only [List.cons_append, List.mem_cons, List.mem_append, Option.mem_toList] at hk
 rcases hk with rfl | hk | hk
 ·exact ⟨_, .inl hp.bk.p.cells⟩
 ·obtain ⟨cs, h1⟩ := own_typed hp.bk.p.ot hk
  exact ⟨cs, .inr h1⟩
 ·obtain ⟨cs, h1⟩ := own_typed hp.bk.p.ow hk
  exact ⟨cs, .inr h1⟩
theorem wl_bookA (h : Wb B r x g kp ka ks Mp Ma Ms st s8 w) (hk : ka < 250) (hBM : B ≤ Ma) {v : Value} {ss : List Account} (hv : w.ownsRow Ma 88 2 v ss.length (cellsOf ss)) (hs : ss.length ≤ 1000) :
  Calls Tryz.prog 41 #[.pointer (some ⟨g, 0, none⟩), v] w fun e w' => e = .returned (.tuple #[]) ∧ Wb B r x g kp (ka + 1) ks Mp w'.heap.size Ms st s8 w' ∧ Below B w w' ∧ ∃ S S', Mv S S' w w' ∧ (∀ k ∈ S, ∃ cs, w.heap[k]? = some (.cells cs 61 (0, 0)) ∨ w.heap[k]? = some (.cells cs 36 (0, 0))) := by
 obtain ⟨bc, tp, wp, ta, wa, ts, ws, Lp, La, Ls, hp, h1, h2, h3, h4, h5, h6⟩ := h.ex
 refine (KAc.add_any g bc ta wa La w hp.bk.a (by rw [h2.1]; exact hk) v ss (own_base0 hv) (by omega) (fun k hk hin => by have h7 := h5 k hin; have h8 := (hv.lt k hk).1; omega)).mono ?_
 rintro e w' ⟨rfl, tp', wp', m, hat, hm, hmf⟩
 obtain ⟨q1, q2⟩ := hp.addA hat hm (fun k hk => Nat.le_trans hBM (hv.lt k hk).1) (fun k hk => Nat.le_trans hp.sz (hmf k hk))
 refine ⟨rfl, ⟨_, tp, wp, tp', wp', ts, ws, Lp, _, Ls, q1, h1, rowsOk_snoc h2 (by omega), h3, h4, q1.bk.a.there, h6⟩, q2, _, _, hm, fun k hk => ?_⟩
 simp only [List.cons_append, List.mem_cons, List.mem_append, Option.mem_toList] at hk
 rcases hk with rfl | hk | hk
 ·exact ⟨_, .inl hp.bk.p.cells⟩
 ·obtain ⟨cs, h1⟩ := own_typed hp.bk.a.ot hk
  exact ⟨cs, .inr h1⟩
 ·obtain ⟨cs, h1⟩ := own_typed hp.bk.a.ow hk
  exact ⟨cs, .inr h1⟩
theorem wl_bookS (h : Wb B r x g kp ka ks Mp Ma Ms st s8 w) (hk : ks < 250) (hBM : B ≤ Ms) {v : Value} {ss : List Asset} (hv : w.ownsRow Ms 92 8 v ss.length (cellsOf ss)) (hs : ss.length ≤ 1000) :
  Calls Tryz.prog 42 #[.pointer (some ⟨g, 0, none⟩), v] w fun e w' => e = .returned (.tuple #[]) ∧ Wb B r x g kp ka (ks + 1) Mp Ma w'.heap.size st s8 w' ∧ Below B w w' ∧ ∃ S S', Mv S S' w w' ∧ (∀ k ∈ S, ∃ cs, w.heap[k]? = some (.cells cs 61 (0, 0)) ∨ w.heap[k]? = some (.cells cs 37 (0, 0))) := by
 obtain ⟨bc, tp, wp, ta, wa, ts, ws, Lp, La, Ls, hp, h1, h2, h3, h4, h5, h6⟩ := h.ex
 refine (KAs.add_any g bc ts ws Ls w hp.bk.s (by rw [h3.1]; exact hk) v ss (own_base0 hv) (by omega) (fun k hk hin => by have h7 := h6 k hin; have h8 := (hv.lt k hk).1; omega)).mono ?_
 rintro e w' ⟨rfl, tp', wp', m, hat, hm, hmf⟩
 obtain ⟨q1, q2⟩ := hp.addS hat hm (fun k hk => Nat.le_trans hBM (hv.lt k hk).1) (fun k hk => Nat.le_trans hp.sz (hmf k hk))
 refine ⟨rfl, ⟨_, tp, wp, ta, wa, tp', wp', Lp, La, _, q1, h1, h2, rowsOk_snoc h3 (by omega), h4, h5, q1.bk.s.there⟩, q2, _, _, hm, fun k hk => ?_⟩
 simp only [List.cons_append, List.mem_cons, List.mem_append, Option.mem_toList] at hk
 rcases hk with rfl | hk | hk
 ·exact ⟨_, .inl hp.bk.p.cells⟩
 ·obtain ⟨cs, h1⟩ := own_typed hp.bk.s.ot hk
  exact ⟨cs, .inr h1⟩
 ·obtain ⟨cs, h1⟩ := own_typed hp.bk.s.ow hk
  exact ⟨cs, .inr h1⟩
/-- A row of another kind stays. -/
theorem row_beside {te : TypeId} {w w' : World} {e : TypeId} {size N n : Nat} {v : Value} {xs : List Value} (ho : w.ownsRow N e size v n xs) {S S' : List Nat} (hm : Mv S S' w w') (hS : ∀ k ∈ S, ∃ cs, w.heap[k]? = some (.cells cs 61 (0, 0)) ∨ w.heap[k]? = some (.cells cs te (0, 0))) (h1 : e ≠ 61) (h2 : e ≠ te) : w'.ownsRow N e size v n xs :=
 own_keep' ho fun q hq => by
  obtain ⟨cs, hc⟩ := own_typed ho hq
  refine hm.block q (ho.lt q hq).2 fun hin => ?_
  obtain ⟨cs', h3 | h3⟩ := hS q hin
  ·rw [hc] at h3
   injection h3 with h3
   injection h3 with _ h3 _
   exact h1 h3
  ·rw [hc] at h3
   injection h3 with h3
   injection h3 with _ h3 _
   exact h2 h3
theorem cell_beside {te : TypeId} {w w' : World} {q : Nat} {cs : Array Value} {t : TypeId} {fr : Nat × Nat} (hc : w.heap[q]? = some (.cells cs t fr)) {S S' : List Nat} (hm : Mv S S' w w') (hS : ∀ k ∈ S, ∃ cs, w.heap[k]? = some (.cells cs 61 (0, 0)) ∨ w.heap[k]? = some (.cells cs te (0, 0))) (h1 : t ≠ 61) (h2 : t ≠ te) : w'.heap[q]? = some (.cells cs t fr) := by
 refine (hm.block q (Array.getElem?_eq_some_iff.1 hc).1 fun hin => ?_).trans hc
 obtain ⟨cs', h3 | h3⟩ := hS q hin
 ·rw [hc] at h3
  injection h3 with h3
  injection h3 with _ h3 _
  exact h1 h3
 ·rw [hc] at h3
  injection h3 with h3
  injection h3 with _ h3 _
  exact h2 h3
/-- The end. -/
theorem wl_apart (h : Wb B r x g kp ka ks Mp Ma Ms st s8 w) : Calls Tryz.prog 47 #[.pointer (some ⟨g, 0, none⟩)] w fun e w' => e = .returned (.bool true) ∧ Below B w w' := by
 obtain ⟨bc, tp, wp, ta, wa, ts, ws, Lp, La, Ls, hp, h1, h2, h3, _⟩ := h.ex
 refine (apart3_any g bc tp wp ta wa ts ws Lp La Ls w hp.bk (fun q hq => (h1.2 q hq).1) (fun q hq => (h2.2 q hq).1) (fun q hq => (h3.2 q hq).1) (fun q hq => (h1.2 q hq).2) (fun q hq => (h2.2 q hq).2) (fun q hq => (h3.2 q hq).2)).mono ?_
 rintro e w' ⟨rfl, hm⟩
 exact ⟨rfl, hm.below hp.bb hp.sz⟩
end
end Go.Proofs.YtnpkplegeddhcaaGreat
namespace Go.Proofs.YtnpkplegeddhcaaGreat
open Go.RowKit Go.Maps Go.Shelf Kb

theorem yieldsIf_same {ops : Array Oper} {S : World → Prop} {op : Oper} {a : Act} (hw : Region.wanted op (yielded ops a.tmps) = true) (T : TypeId) (x y : Operand) (z : TypeId) (ho : op.op = .binOp .neq T x y z)
  (cs : Array Value) (hx : a.eval x = .agg cs) (hy : a.eval y = .agg cs) (hg : Tryz.prog.eqGuardType Tryz.prog.depth T = false) (hrun : ∀ w, (Op.equalIn 10000 T (.agg cs) (.agg cs)).run Tryz.prog w = .ok true w) : YieldsIf Tryz.prog ops S op (.bool false) a :=
 .inl ⟨hw, fun w _ => by
  have h1 := run_eqGuard_agg (P := Tryz.prog) w .neq T x y cs cs hg
  unfold execOp
  have h2 := run_neq_struct (P := Tryz.prog) w T cs cs
  rw [hrun] at h2
  simp only [ho, hx, hy, Sem.run_bind, h1, h2, Result.andThen_ok]
  rfl⟩
theorem yieldsIf_load_row {P : Program} {ops : Array Oper} {S : World → Prop} {op : Oper} {a : Act} (hw : Region.wanted op (yielded ops a.tmps) = true) (ty : TypeId) (x : Operand) (ho : op.op = .load ty x)
  (g : Nat) (hx : a.eval x = .pointer (some ⟨g, 0, none⟩)) (t : TypeId) (cs : Array Value) (d : TypeDesc) (hS : ∀ w, S w → w.heap[g]? = some (.cells cs t (0, 0)))
  (hu : P.underlying ty = some d) (hd : (match d with | .struct _ | .array _ _ => true | _ => false) = true) (hi : (P.info? ty).map (·.size) = some cs.size) : YieldsIf P ops S op (.agg cs) a :=
 .inl ⟨hw, fun w hw' => by
  unfold execOp
  simp only [ho, hx, Instr.loadAt, Instr.sureAddr, Sem.run_bind, Sem.run_pure, Result.andThen_ok, run_loadVar_row w g t ty cs (0, 0) d (hS w hw') hu hd hi]⟩
theorem CalAt.mv {c x : Nat} {D : DataW Unit} {w w' : World} (h : CalAt c D w) (hm : Mv [x] [x] w w') {cs : Array Value} {t : TypeId} (hx : w.heap[x]? = some (.cells cs t (0, 0))) (hne : c ≠ x) : CalAt c D w' := by
 have hcl := h.lt
 obtain ⟨q, n, h9, h10⟩ := h
 have hbr := blk_own_ne h10 hx
 have hbl := h10.lt
 refine ⟨q, n, (hm.block c hcl (by simpa using hne)).trans h9, ?_⟩
 obtain ⟨es, clock, h11, h12⟩ := h10
 exact ⟨es, clock, (hm.block q hbl (by simpa using hbr)).trans h11, h12⟩
theorem Lows.mono {B B' r : Nat} {w : World} (h : Lows B r w) (hB : B' ≤ B) : Lows B' r w := by
 obtain ⟨c, vp, va, vs, h1, h2, h3, h4, h5⟩ := h
 exact ⟨c, vp, va, vs, h1, fun b e => Nat.le_trans hB (h2 b e), fun b e => Nat.le_trans hB (h3 b e), fun b e => Nat.le_trans hB (h4 b e), fun b e => Nat.le_trans hB (h5 b e)⟩
/-- An empty book. -/
def bc0 : Array Value := Array.replicate 34 (.slice none 0 0)
theorem bk3_new (w : World) : Kb.Bk3 w.heap.size bc0 (.slice none 0 0) (.slice none 0 0) (.slice none 0 0) (.slice none 0 0) (.slice none 0 0) (.slice none 0 0) [] [] [] (w.alloc (.cells bc0 61)) :=
 ⟨Kb.bk_new w rfl rfl rfl, Kb.bk_new w rfl rfl rfl, Kb.bk_new w rfl rfl rfl, fun j h1 _ => by unfold bc0; rw [Array.getElem?_replicate, if_pos h1]⟩
/-- The beginning. -/
theorem wb_new {B r x : Nat} {st : Rf} {s8 : R8} {w : World} (hr : RefAt r st w) (hl : Lows B r w) (hx : R8At x s8 w) (h1 : B ≤ r) (h2 : B ≤ x) (h3 : B ≤ w.heap.size) : Wb B r x w.heap.size 0 0 0 (w.heap.size + 1) (w.heap.size + 1) (w.heap.size + 1) st s8 (w.alloc (.cells bc0 61)) := by
 have hb : Below w.heap.size w (w.alloc (.cells bc0 61)) := (Below.refl _ _).alloc (Nat.le_refl _) _
 have hk : ∀ k ∈ Kb.bkBlocks w.heap.size (.slice none 0 0) (.slice none 0 0) ([] : List (Kb.KRow Party)), k = w.heap.size := fun k hk => by
  simpa [Kb.bkBlocks, Value.ownBlock, Kb.rowBlocks] using hk
 have hk2 : ∀ k ∈ Kb.bkBlocks w.heap.size (.slice none 0 0) (.slice none 0 0) ([] : List (Kb.KRow Account)), k = w.heap.size := fun k hk => by
  simpa [Kb.bkBlocks, Value.ownBlock, Kb.rowBlocks] using hk
 have hk3 : ∀ k ∈ Kb.bkBlocks w.heap.size (.slice none 0 0) (.slice none 0 0) ([] : List (Kb.KRow Asset)), k = w.heap.size := fun k hk => by
  simpa [Kb.bkBlocks, Value.ownBlock, Kb.rowBlocks] using hk
 refine ⟨⟨bc0, _, _, _, _, _, _, [], [], [], ⟨hr.below hb, hl.below hb, hx.below hb, bk3_new w, h1, h2, b3_all ?_ ?_ ?_, by simp; omega⟩, rowsOk_nil, rowsOk_nil, rowsOk_nil, ?_, ?_, ?_⟩⟩
 ·intro k h; rw [hk k h]; exact h3
 ·intro k h; rw [hk2 k h]; exact h3
 ·intro k h; rw [hk3 k h]; exact h3
 ·intro k h; rw [hk k h]; omega
 ·intro k h; rw [hk2 k h]; omega
 ·intro k h; rw [hk3 k h]; omega
end Go.Proofs.YtnpkplegeddhcaaGreat
