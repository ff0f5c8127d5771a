/-
 ref's New with a calendar that is given.
 Conditions: none.
-/
import Derived.Test.YtnpkplegeddhcaaGreatRpZ
import Derived.Deep.QuietTactic
import Derived.BigQuiet
import Derived.WalkKit
import Derived.Test.YtnpkplegeddhcaaGreatRpSt
namespace Go.Proofs.YtnpkplegeddhcaaGreat
open Go.RowKit

def okR (x : ROp) : Prop := x.pp.length ≤ 60 ∧ x.aa.length ≤ 60 ∧ x.ll.length ≤ 60 ∧ x.s.size ≤ 300
/-- What Light tells: no, or steps that are few and short enough. -/
def LightR (l : List ROp) (e : Ending) : Prop := (e = .returned (.bool true) ∧ l.length ≤ 80 ∧ ∀ x ∈ l, okR x) ∨ e = .returned (.bool false)
set_option maxHeartbeats 4000000 in
set_option maxRecDepth 100000 in
theorem rlight_any (l : List ROp) (A : Option Addr) (c B : Nat) (w : World) (hr : ROpsAt w B A l) (hl : l.length ≤ 9223372036854775807) (hf : ∀ x ∈ l, x.Fits) :
  Calls Tryz.prog 4 #[.slice A l.length c] w fun e w' => LightR l e ∧ w' = w := by
 obtain ⟨n, hn⟩ : ∃ n, l.length = n := ⟨_, rfl⟩
 rw [hn] at hl ⊢
 have Hn := Lib.hid hn; have HR := Lib.hid hr; have HF := Lib.hid hf
 clear hn hr hf
 go_enter Tryz.func4, Tryz.ntmps4
 go_wp2
 go_loopw [3] (fun i wr => ∃ k : Nat, k ≤ n ∧ i = .int .i64 k ∧ Hid (∀ j x, j < k → l[j]? = some x → okR x) ∧ Hid (wr = w)) (fun i _ => n - (intOf i).toNat)
 case atStart => exact ⟨0, Nat.zero_le _, rfl, fun j x h => absurd h (by omega), rfl⟩
 case round =>
  obtain ⟨k, hk, rfl, HI, HQ⟩ := hrel
  have hq := HQ.out
  have HQ0 := Lib.hid hq
  by_cases hlt : k < n
  ·by_cases h200 : (k : Int) < 200
   ·obtain ⟨ad, x, rfl, hab, hxk, hc0, _⟩ := HR.out.at_ (show k < l.length by rw [Hn.out]; exact hlt)
    have hc : ∀ j v, x.cells[j]? = some v → wr.cell? ((ad.add (k * 6)).add j) = some v := by rw [hq]; exact hc0
    have hfx := HF.out x (List.mem_of_getElem? hxk)
    have l1 := hfx.lp
    have l2 := hfx.la
    have l3 := hfx.ll
    have l4 := hfx.vs
    have c2 : wr.cell? ⟨(ad.add (k * 6)).block, (ad.add (k * 6)).off + 2, none⟩ = some (.string x.s) := hc 2 _ rfl
    have c3 : wr.cell? ⟨(ad.add (k * 6)).block, (ad.add (k * 6)).off + 3, none⟩ = some (.slice x.pa x.pp.length x.pc) := hc 3 _ rfl
    have c4 : wr.cell? ⟨(ad.add (k * 6)).block, (ad.add (k * 6)).off + 4, none⟩ = some (.slice x.aA x.aa.length x.ac) := hc 4 _ rfl
    have c5 : wr.cell? ⟨(ad.add (k * 6)).block, (ad.add (k * 6)).off + 5, none⟩ = some (.slice x.la x.ll.length x.lc) := hc 5 _ rfl
    have HX := Lib.hid hxk
    have HO : Hid (okR x ↔ x.pp.length ≤ 60 ∧ x.aa.length ≤ 60 ∧ x.ll.length ≤ 60 ∧ x.s.size ≤ 300) := Iff.rfl
    obtain ⟨n1, e1⟩ : ∃ n1, x.pp.length = n1 := ⟨_, rfl⟩
    obtain ⟨n2, e2⟩ : ∃ n2, x.aa.length = n2 := ⟨_, rfl⟩
    obtain ⟨n3, e3⟩ : ∃ n3, x.ll.length = n3 := ⟨_, rfl⟩
    rw [e1] at l1 c3 HO; rw [e2] at l2 c4 HO; rw [e3] at l3 c5 HO
    clear hc hc0 hfx hxk hq e1 e2 e3
    by_cases g1 : n1 ≤ 60
    rotate_left
    ·have t1 : (60 : Int) < (n1 : Int) := by omega
     go_wp2
     go_ret
     exact ⟨.inr rfl, HQ0.out⟩
    have t1 : decide ((60 : Int) < (n1 : Int)) = false := decide_eq_false (by omega)
    by_cases g2 : n2 ≤ 60
    rotate_left
    ·have t2 : (60 : Int) < (n2 : Int) := by omega
     go_wp2
     go_ret
     exact ⟨.inr rfl, HQ0.out⟩
    have t2 : decide ((60 : Int) < (n2 : Int)) = false := decide_eq_false (by omega)
    by_cases g3 : n3 ≤ 60
    rotate_left
    ·have t3 : (60 : Int) < (n3 : Int) := by omega
     go_wp2
     go_ret
     exact ⟨.inr rfl, HQ0.out⟩
    have t3 : decide ((60 : Int) < (n3 : Int)) = false := decide_eq_false (by omega)
    by_cases g4 : x.s.size ≤ 300
    rotate_left
    ·have t4 : (300 : Int) < (x.s.size : Int) := by omega
     go_wp2
     go_ret
     exact ⟨.inr rfl, HQ0.out⟩
    have t4 : decide ((300 : Int) < (x.s.size : Int)) = false := decide_eq_false (by omega)
    have HOK := Lib.hid (HO.out.2 ⟨g1, g2, g3, g4⟩)
    go_wp2
    go_roundw
    case rel =>
     refine ⟨k + 1, hlt, by go_num, fun j z hj hz => ?_, HQ0.out⟩
     rcases Nat.lt_or_ge j k with h1 | h1
     ·exact HI.out j z h1 hz
     ·obtain rfl : j = k := by omega
      rw [HX.out] at hz
      injection hz with hz
      subst hz
      exact HOK.out
    case measure => simp [intOf]; omega
   ·have h80 : ¬ (n : Int) ≤ 80 := by omega
    have h80' : decide ((n : Int) ≤ 80) = false := decide_eq_false h80
    clear hq
    go_wp2
    go_ret
    exact ⟨.inr rfl, HQ0.out⟩
  ·obtain rfl : k = n := by omega
   by_cases h80 : k ≤ 80
   ·have h80' : decide ((k : Int) ≤ 80) = true := decide_eq_true (by omega)
    have HALL : Hid (∀ x ∈ l, okR x) := fun x hx => by
     obtain ⟨j, hj⟩ := List.getElem?_of_mem hx
     exact HI.out j x (by have := (List.getElem?_eq_some_iff.1 hj).1; rw [Hn.out] at this; exact this) hj
    clear hq
    go_wp2
    go_ret
    exact ⟨.inl ⟨rfl, by rw [Hn.out]; exact h80, HALL.out⟩, HQ0.out⟩
   ·have h80' : decide ((k : Int) ≤ 80) = false := decide_eq_false (by omega)
    clear hq
    go_wp2
    go_ret
    exact ⟨.inr rfl, HQ0.out⟩
end Go.Proofs.YtnpkplegeddhcaaGreat
namespace Go.Proofs.YtnpkplegeddhcaaGreat
open Go.RowKit Go.Maps

set_option maxHeartbeats 4000000 in
set_option maxRecDepth 10000 in
theorem new_cal (B c : Nat) (D : DataW Unit) (w : World) (hcal : CalAt c D w) (hBc : B ≤ c) (hB : B ≤ w.heap.size) : Calls Tryz.prog 9 #[.pointer (some ⟨c, 0, none⟩)] w fun e w' => ∃ r, e = .returned (.pointer (some ⟨r, 0, none⟩)) ∧ w.heap.size ≤ r ∧ RefAt r ⟨rf0.p, rf0.a, .map [], D⟩ w' ∧ Below w.heap.size w w' ∧ Lows B r w' := by
 have hmm := @run_makeMap Tryz.prog
 have hlc := hcal.lt
 have HC := Lib.hid hcal
 clear hcal
 go_enter Tryz.func9, Tryz.ntmps9
 obtain ⟨w2, hr2, ho2, hg2⟩ := (show (w.alloc (.map #[] 0)).ownsMap Tryz.prog 9 (Kd.E Party) w.heap.size 0 (.map []) from World.ownsMap_made _ _ _ _).update keyT Tryz.underlying78 (by unfold maxLen; omega) (key_str (s := bankS) (by decide)) (Kd.E_mk (⟨bankS, 0⟩ : Party))
 have hrun2 : (Instr.mapUpdate 78 (.map (some w.heap.size)) (.string ⟨#[66, 65, 78, 75]⟩) (.agg #[.string ⟨#[66, 65, 78, 75]⟩, .int .i64 0])).run Tryz.prog (w.alloc (.map #[] 0)) = .ok () w2 := hr2
 obtain ⟨w3, hr3, ho3, hg3⟩ := (show (w2.alloc (.map #[] 0)).ownsMap Tryz.prog 9 (Kd.E Account) w2.heap.size 0 (.map []) from World.ownsMap_made _ _ _ _).update keyT Tryz.underlying79 (by unfold maxLen; omega) (key_str (s := bankS) (by decide)) (Kd.E_mk (⟨bankS, bankS⟩ : Account))
 have hrun3 : (Instr.mapUpdate 79 (.map (some w2.heap.size)) (.string ⟨#[66, 65, 78, 75]⟩) (.agg #[.string ⟨#[66, 65, 78, 75]⟩, .string ⟨#[66, 65, 78, 75]⟩])).run Tryz.prog (w2.alloc (.map #[] 0)) = .ok () w3 := hr3
 have hz2 := hg2.size
 have hz3 := hg3.size
 simp only [World.size_alloc] at hz2 hz3
 have hb13 : Below w.heap.size w w3 := (((Below.refl w.heap.size w).alloc (Nat.le_refl _) _).grown hg2 (by simp) (by intro j hj; injection hj with hj; omega)).trans (((Below.refl w.heap.size w2).alloc (by omega) _).grown hg3 (by simp; omega) (by intro j hj; injection hj with hj; omega))
 have HB3 := Lib.hid hb13
 have HP2 := Lib.hid (own_tight ho2)
 have HA3 := Lib.hid (own_tight ho3)
 have HP3 := Lib.hid (own_keep HP2.out ((hg3.block w.heap.size (by simp; omega) (fun e => by injection e with e; omega)).trans (Below.heap_alloc w2 _ w.heap.size (by omega))))
 clear hr2 hr3 ho2 ho3 hg2 hg3 hb13
 go_wp2
 go_ret
 have hlm : w2.heap.size < w3.heap.size := by omega
 refine ⟨w3.heap.size, rfl, by omega, ⟨c, .map (some w.heap.size), .map (some w2.heap.size), .map none, heap_alloc_new _ _, ⟨_, rfl⟩, ⟨_, rfl⟩, .inr ⟨_, rfl, ?_⟩, .inr ⟨_, rfl, ?_⟩, .inl ⟨rfl, rfl⟩, ?_, by omega⟩, ?_, ⟨_, _, _, _, heap_alloc_new _ _, low_some hB, low_some (by omega), low_none, fun b e => by injection e with e; injection e with e; injection e with e _ _; omega⟩⟩
 ·exact own_keep HP3.out (Below.heap_alloc _ _ _ (by omega))
 ·exact own_keep HA3.out (Below.heap_alloc _ _ _ (by omega))
 ·exact (HC.out.below HB3.out).below ((Below.refl _ _).alloc (Nat.le_refl _) _)
 ·exact HB3.out.alloc (by omega) _
end Go.Proofs.YtnpkplegeddhcaaGreat
