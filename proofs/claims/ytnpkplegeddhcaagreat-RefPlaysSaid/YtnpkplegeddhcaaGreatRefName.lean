/-
 Package name as a contract where only Valid is reached: is a text a name.
 Conditions: texts.
-/
import Derived.WalkKit
import Derived.Lib.Hide
import Derived.Lib.Builder
import Derived.Maps.OwnSet
import Derived.Maps.OwnOps
import Derived.Deep.QuietTactic
import Derived.BigQuiet
import Derived.Deep.DeepCutAuto
import Derived.KernelRfl
import Derived.WalkSpells
import Derived.Test.YtnpkplegeddhcaaGreatWords2
import Derived.Test.YtnpkplegeddhcaaGreatProg
import Derived.Test.YtnpkplegeddhcaaGreatClone
import Derived.Sort.Walk0
import Derived.Laws.Cover1
namespace Go.Proofs.YtnpkplegeddhcaaGreat
open Go.RowKit Go.Maps

def isDayB (d : Int) : Bool := decide (0 ≤ d ∧ d ≤ 1000000)
theorem isDayB_yes {d : Int} : isDayB d = true ↔ 0 ≤ d ∧ d ≤ 1000000 := by simp [isDayB]
theorem isDayB_no {d : Int} : isDayB d = false ↔ ¬ (0 ≤ d ∧ d ≤ 1000000) := by simp [isDayB]

theorem isDay_any (d : Int) (w : World) : Calls Tryz.prog 72 #[.int .i64 d] w fun e w' => e = .returned (.bool (isDayB d)) ∧ w = w' := by
 by_cases h0 : 0 ≤ d
 ·by_cases h1 : d ≤ 1000000
  ·rw [isDayB_yes.2 ⟨h0, h1⟩]
   go_enter Tryz.func72, Tryz.ntmps72
   go_wp2
   go_ret
   exact ⟨ret_bool (by first | rfl | simp | simp [h1]), rfl⟩
  ·rw [isDayB_no.2 (by omega)]
   go_enter Tryz.func72, Tryz.ntmps72
   go_wp2
   go_ret
   exact ⟨ret_bool (by simp), rfl⟩
 ·rw [isDayB_no.2 (by omega)]
  go_enter Tryz.func72, Tryz.ntmps72
  go_wp2
  go_ret
  exact ⟨ret_bool (by simp), rfl⟩
theorem noDay_any (d : Int) (w : World) : Calls Tryz.prog 71 #[.int .i64 d] w fun e w' => e = .returned (.bool (!isDayB d)) ∧ w = w' := by
 go_enter Tryz.func71, Tryz.ntmps71
 go_wp2_with (go_at_call 72; refine (isDay_any d _).mono ?_; rintro e w' ⟨rfl, rfl⟩)
 go_ret
 exact ⟨rfl, rfl⟩

/-- The first place at which there is no day. -/
def badAt : List Int → Nat → Int
 | [], _ => -1
 | d :: r, k => if isDayB d then badAt r (k + 1) else k
theorem badAt_cons (d : Int) (r : List Int) (k : Nat) : badAt (d :: r) k = if isDayB d then badAt r (k + 1) else k := rfl
theorem badAt_neg (l : List Int) (k : Nat) : decide (0 ≤ badAt l k) = l.any (fun d => !isDayB d) := by
 induction l generalizing k with
 | nil => rfl
 | cons d r ih =>
  rw [badAt_cons, List.any_cons]
  cases hd : isDayB d
  ·simp
  ·simp [ih]

set_option maxHeartbeats 1000000 in
theorem indexFunc_any (l : List Int) (A : Option Addr) (c B : Nat) (w : World) (hr : Reads w B 1 A l.length (ints l)) (hl : l.length ≤ 9223372036854775807) :
  Calls Tryz.prog 157 #[.slice A l.length c, .func (.func 71) #[] #[]] w fun e w' => e = .returned (.int .i64 (badAt l 0)) ∧ w = w' := by
 obtain ⟨n, hn⟩ : ∃ n, l.length = n := ⟨_, rfl⟩
 rw [hn] at hr hl ⊢
 have Hn := Lib.hid hn; clear hn
 have Hr := Lib.hid hr; clear hr
 go_enter Tryz.func157, Tryz.ntmps157
 go_wp2
 go_loop [8] (fun i => ∃ k : Nat, k ≤ n ∧ i = .int .i64 k ∧ Hid (badAt l 0 = badAt (l.drop k) k)) (fun i => n - (intOf i).toNat)
 case atStart => exact ⟨0, Nat.zero_le _, rfl, rfl⟩
 case round =>
  obtain ⟨k, hk, rfl, HB⟩ := hrel
  by_cases hlt : k < n
  ·obtain ⟨ad, z, rfl, hab, hzk, hc⟩ := int_at Hr.out hlt
   have hd : badAt (l.drop k) k = if isDayB z then badAt (l.drop (k + 1)) (k + 1) else k := by rw [drop_cons hzk]; rfl
   have HD := Lib.hid hd; clear hd hzk
   cases hz : isDayB z
   ·have hc2 := noDay_any z w
    rw [hz] at hc2
    have HC := Lib.hid hc2; clear hc2
    have Hz := Lib.hid hz; clear hz
    go_wp2_with (go_at_call 71; refine HC.out.mono ?_; rintro e w' ⟨rfl, rfl⟩)
    go_ret
    exact ⟨ret_int (by rw [HB.out, HD.out, Hz.out]; rfl), rfl⟩
   ·have hc2 := noDay_any z w
    rw [hz] at hc2
    have HC := Lib.hid hc2; clear hc2
    have Hz := Lib.hid hz; clear hz
    go_wp2_with (go_at_call 71; refine HC.out.mono ?_; rintro e w' ⟨rfl, rfl⟩)
    go_round
    case rel => exact ⟨k + 1, by omega, by go_num, by show _ = _; rw [HB.out, HD.out, Hz.out]; rfl⟩
    case measure => simp [intOf]; omega
  ·go_wp2
   go_ret
   exact ⟨ret_int (by rw [HB.out, List.drop_of_length_le (by have := Hn.out; omega)]; rfl), rfl⟩
theorem contains_any (l : List Int) (A : Option Addr) (c B : Nat) (w : World) (hr : Reads w B 1 A l.length (ints l)) (hl : l.length ≤ 9223372036854775807) :
  Calls Tryz.prog 70 #[.slice A l.length c, .func (.func 71) #[] #[]] w fun e w' => e = .returned (.bool (l.any (fun d => !isDayB d))) ∧ w = w' := by
 obtain ⟨x, Hx⟩ : ∃ x, Hid (badAt l 0 = x) := ⟨_, rfl⟩
 go_enter Tryz.func70, Tryz.ntmps70
 go_wp2_with (go_at_call 157; refine (indexFunc_any l A c B _ hr hl).mono ?_; rw [Hx.out]; rintro e w' ⟨rfl, rfl⟩)
 go_ret
 exact ⟨ret_bool (by rw [← badAt_neg l 0, Hx.out]), rfl⟩
theorem map_nil (w : World) (r : Option Nat) : (binOp .eql 104 (.map r) (.map none)).run Tryz.prog w = .ok (.bool r.isNone) w := run_eql_map_nil w 104 _ _ r Tryz.underlying104
theorem clone_nil (w : World) : Calls Tryz.prog 73 #[.map none] w fun e w' => e = .returned (.map none) ∧ w = w' := by
 have q := fun (w : World) (r : Option Nat) => map_nil w r
 go_enter Tryz.func73, Tryz.ntmps73
 go_wp2
 go_ret
 exact ⟨rfl, rfl⟩
end Go.Proofs.YtnpkplegeddhcaaGreat
namespace Go.Proofs.YtnpkplegeddhcaaGreat
open Go.RowKit Go.Maps

theorem keyLaw : Keyed Tryz.prog 3 := int_keyed Tryz.underlying3
theorem zeroU (w : World) : (zeroValue 130).run Tryz.prog w = .ok (.agg #[]) w := by kernel_rfl
/-- The set of these days. -/
def setD (l : List Int) : DataW Unit := setOf (.agg []) (l.map (fun d => Lit.int .i64 d))
def hasD (D : DataW Unit) (d : Int) : Bool := Maps.has D (.int .i64 d)
theorem key_int {d : Int} (h1 : -9223372036854775808 ≤ d) (h2 : d ≤ 9223372036854775807) : keyOf Tryz.prog 3 (.int .i64 d) = some (.int .i64 d) := keyOf_int_mk Tryz.underlying3 (WalkArith.wf_i64 (by omega))

/-- A calendar in block c; its map's block is among those from B on. -/
def CalAt (c : Nat) (D : DataW Unit) (w : World) : Prop :=
 ∃ b n, w.heap[c]? = some (.cells #[.map (some b)] 106 (0, 0)) ∧ w.ownsMap Tryz.prog 3 (unitElem (H := Unit)) b n D
section
variable {c : Nat} {D : DataW Unit} {w w' : World}
theorem CalAt.lt (h : CalAt c D w) : c < w.heap.size := by obtain ⟨b, n, h1, _⟩ := h; exact Blk.lt h1
theorem CalAt.below (h : CalAt c D w) (hb : Below w.heap.size w w') : CalAt c D w' := by
 have h0 := h.lt
 obtain ⟨b, n, h1, h2⟩ := h
 refine ⟨b, n, (hb.block c h0).trans h1, ?_⟩
 obtain ⟨es, clock, h3, h4⟩ := h2
 exact ⟨es, clock, (hb.block b (Array.getElem?_eq_some_iff.1 h3).1).trans h3, h4⟩
end

/-- Is there business? -/
def isB (D : DataW Unit) (d : Int) : Bool := decide (0 ≤ d ∧ d ≤ 1000000 ∧ d % 7 < 5) && !hasD D d
theorem isB_out {D : DataW Unit} {d : Int} (h : ¬ (0 ≤ d ∧ d ≤ 1000000 ∧ d % 7 < 5)) : isB D d = false := by unfold isB; rw [decide_eq_false h]; rfl
theorem isB_in {D : DataW Unit} {d : Int} (h : 0 ≤ d ∧ d ≤ 1000000 ∧ d % 7 < 5) : isB D d = !hasD D d := by unfold isB; rw [decide_eq_true h]; rfl

set_option maxHeartbeats 1000000 in
theorem is_any (c : Nat) (D : DataW Unit) (d : Int) (hd1 : -9223372036854775808 ≤ d) (hd2 : d ≤ 9223372036854775807) (w : World) (h : CalAt c D w) :
  Calls Tryz.prog 33 #[.pointer (some ⟨c, 0, none⟩), .int .i64 d] w fun e w' => e = .returned (.bool (isB D d)) ∧ Below w.heap.size w w' := by
 have hz := fun (w : World) => zeroU w
 by_cases hday : 0 ≤ d ∧ d ≤ 1000000
 ·have hi := isDay_any d w
  rw [isDayB_yes.2 hday] at hi
  have HI := Lib.hid hi; clear hi
  obtain ⟨h0, h1⟩ := hday
  by_cases h7 : d % 7 < 5
  ·obtain ⟨x, hx⟩ : ∃ x, hasD D d = x := ⟨_, rfl⟩
   rw [isB_in ⟨h0, h1, h7⟩, hx]
   have HX := Lib.hid hx; clear hx
   obtain ⟨b, n, hb, hown⟩ := h
   have c0 : w.cell? ⟨c, 0, none⟩ = some (.map (some b)) := by rw [Lib.cell_of_heap hb]; rfl
   have HB := Lib.hid hb; clear hb
   go_enter Tryz.func33, Tryz.ntmps33
   go_wp2_with (first
    | (go_at_call 72; refine HI.out.mono ?_; rintro e w' ⟨rfl, rfl⟩)
    | (at_lookup; refine wpList_lookup_own_unit _ rfl _ _ 104 rfl 3 130 keyLaw Tryz.underlying104 (zeroU _) b n D rfl hown _ _ rfl (key_int hd1 hd2) ?_))
   go_ret
   exact ⟨ret_bool (by rw [← HX.out]; rfl), (Below.refl _ _).alloc (Nat.le_refl _) _⟩
  ·rw [isB_out (by omega)]
   go_enter Tryz.func33, Tryz.ntmps33
   go_wp2_with (go_at_call 72; refine HI.out.mono ?_; rintro e w' ⟨rfl, rfl⟩)
   go_ret
   exact ⟨rfl, Below.refl _ _⟩
 ·rw [isB_out (by omega)]
  have hi := isDay_any d w
  rw [isDayB_no.2 hday] at hi
  have HI := Lib.hid hi; clear hi hday
  go_enter Tryz.func33, Tryz.ntmps33
  go_wp2_with (go_at_call 72; refine HI.out.mono ?_; rintro e w' ⟨rfl, rfl⟩)
  go_ret
  exact ⟨rfl, Below.refl _ _⟩
theorem is_nil (d : Int) (w : World) :
  Calls Tryz.prog 33 #[.pointer none, .int .i64 d] w fun e w' => e = .returned (.bool false) ∧ w = w' := by
 go_enter Tryz.func33, Tryz.ntmps33
 go_wp2
 go_ret
 exact ⟨rfl, rfl⟩
end Go.Proofs.YtnpkplegeddhcaaGreat
namespace Go.Proofs.YtnpkplegeddhcaaGreat
open Go.RowKit Go.Maps

/-- What closing days on a fresh calendar tells. -/
def errNew (l : List Int) : Int := if l.any (fun d => !isDayB d) then 17 else if 300 < Maps.size (setD l) then 2 else 0
def IfOk (e : Int) (P : Prop) : Prop := e = 0 → P
theorem ifOk_no {e : Int} {P : Prop} (h : e ≠ 0) : IfOk e P := fun h' => absurd h' h
theorem ifOk_yes {e : Int} {P : Prop} (h : P) : IfOk e P := fun _ => h
theorem setD_step {l : List Int} {k : Nat} {d : Int} (h : l[k]? = some d) : setD (l.take (k + 1)) = (setD (l.take k)).put (.int .i64 d) (.agg []) := by
 unfold setD
 rw [take_snoc h, List.map_append]
 exact setOf_snoc _ _ _

set_option maxHeartbeats 1000000 in
theorem close_new (c : Nat) (l : List Int) (A : Option Addr) (cp : Nat) (w : World) (hb : w.heap[c]? = some (.cells #[.map none] 106 (0, 0))) (hr : Reads w c 1 A l.length (ints l)) (hl : l.length ≤ 9223372036854775807)
  (hv : ∀ v ∈ l, -9223372036854775808 ≤ v ∧ v ≤ 9223372036854775807) :
  Calls Tryz.prog 26 #[.pointer (some ⟨c, 0, none⟩), .slice A l.length cp] w fun e w' => e = .returned (.int .i64 (errNew l)) ∧ IfOk (errNew l) (CalAt c (setD l) w') ∧ Below c w w' := by
 have hc := contains_any l A cp c w hr hl
 have hmm := @run_makeMap Tryz.prog
 have q := fun (w : World) (r : Option Nat) => map_nil w r
 have c0 : w.cell? ⟨c, 0, none⟩ = some (.map none) := by rw [Lib.cell_of_heap hb]; rfl
 have hclt : c < w.heap.size := Blk.lt hb
 cases hany : l.any (fun d => !isDayB d)
 ·have he : errNew l = if 300 < Maps.size (setD l) then 2 else 0 := by unfold errNew; rw [hany]; rfl
  rw [hany] at hc
  obtain ⟨n, hn⟩ : ∃ n, l.length = n := ⟨_, rfl⟩
  rw [hn] at hr hc hl ⊢
  have HC := Lib.hid hc; clear hc
  have Hn := Lib.hid hn; clear hn
  have Hr := Lib.hid hr; clear hr
  have Hv := Lib.hid hv; clear hv
  have HB := Lib.hid hb; clear hb
  have HE := Lib.hid he; clear he hany
  go_enter Tryz.func26, Tryz.ntmps26
  go_wp2_with (first
   | (go_at_call 70; refine HC.out.mono ?_; rintro e w' ⟨rfl, rfl⟩)
   | (go_at_call 73; refine (clone_nil _).mono ?_; rintro e w' ⟨rfl, rfl⟩))
  have hbm : w.heap.size ≠ c := by omega
  go_loopw [24] (fun i wr => ∃ k : Nat, k ≤ n ∧ i = .int .i64 k ∧ Hid (wr.ownsMap Tryz.prog 3 (unitElem (H := Unit)) w.heap.size k (setD (l.take k))) ∧ Hid (wr.heap[c]? = some (.cells #[.map none] 106 (0, 0))) ∧ Hid (Below c w wr)) (fun i _ => n - (intOf i).toNat)
  case atStart => exact ⟨0, Nat.zero_le _, rfl, World.ownsMap_made _ _ _ _, (Below.heap_alloc w _ c hclt).trans HB.out, (Below.refl _ _).alloc (Nat.le_of_lt hclt) _⟩
  case round =>
   obtain ⟨k, hk, rfl, HM, HK, HBl⟩ := hrel
   have hml := HM.out.lt
   clear c0
   by_cases hlt : k < n
   ·obtain ⟨ad, z, rfl, hab, hzk, hc0⟩ := int_at Hr.out hlt
    have hcell : wr.cell? (ad.add k) = some (.int .i64 z) := by rw [HBl.out.cell (p := ad.add k) (by rw [block_of_add]; exact hab)]; exact hc0
    have hz := Hv.out z (List.mem_of_getElem? hzk)
    have hst := setD_step hzk
    have HS := Lib.hid hst; clear hst hzk hc0
    have hown := HM.out
    go_wp2_with (at_mapUpdate; refine wpList_mapUpdate_own _ rfl _ _ _ 104 rfl 3 130 keyLaw Tryz.underlying104 _ w.heap.size k _ rfl hown (by unfold maxLen; omega) _ _ _ rfl rfl (key_int hz.1 hz.2) _ [] unitElem_mk ?_)
    intro w1 hown1 hgrow1
    have Ho := Lib.hid hown1; clear hown1 hown
    have HK1 : Hid (w1.heap[c]? = some (.cells #[.map none] 106 (0, 0))) := (hgrow1.block c (Blk.lt HK.out) (by intro h; injection h with h; exact hbm h.symm)).trans HK.out
    have HB1 : Hid (Below c w w1) := HBl.out.grown hgrow1 (by have := HBl.out.size; omega) (by intro j hj; cases hj; omega)
    clear hgrow1 hcell
    go_wp2
    go_roundw
    case rel => exact ⟨k + 1, by omega, by go_num, by rw [HS.out]; exact Ho.out, HK1.out, HB1.out⟩
    case measure => simp [intOf]; omega
   ·have hkn : k = n := by omega
    subst hkn
    have hfull : l.take k = l := List.take_of_length_le (by have := Hn.out; omega)
    have hown := HM.out
    rw [hfull] at hown
    obtain ⟨sz, hsz⟩ : ∃ sz, Maps.size (setD l) = sz := ⟨_, rfl⟩
    have hszle := hown.size_le
    rw [hsz] at hszle
    have hE := HE.out
    rw [hsz] at hE
    have c0 : wr.cell? ⟨c, 0, none⟩ = some (.map none) := by rw [Lib.cell_of_heap HK.out]; rfl
    have f0 : wr.frozen? ⟨c, 0, none⟩ = false := Lib.frozen_of_heap HK.out 0
    have Hsz := Lib.hid hsz; clear hsz hfull HM
    have HE2 := Lib.hid hE; clear hE HE
    by_cases hbig : 300 < sz
    ·go_wp2_with (at_len; refine wpList_len_own _ rfl _ 104 rfl 3 130 Tryz.underlying104 _ w.heap.size k _ rfl hown ?_; rw [Hsz.out])
     go_ret
     exact ⟨ret_int (by rw [HE2.out, if_pos hbig]), ifOk_no (by rw [HE2.out, if_pos hbig]; decide), HBl.out⟩
    ·go_wp2_with (at_len; refine wpList_len_own _ rfl _ 104 rfl 3 130 Tryz.underlying104 _ w.heap.size k _ rfl hown ?_; rw [Hsz.out])
     go_ret
     refine ⟨ret_int (by rw [HE2.out, if_neg hbig]), ifOk_yes ⟨w.heap.size, k, ?_, hown.setCell (a := ⟨c, 0, none⟩) hbm _⟩, HBl.out.setCell (p := ⟨c, 0, none⟩) (Nat.le_refl _) _⟩
     exact Blk.set_ HK.out 0 _
 ·have he : errNew l = 17 := by unfold errNew; rw [hany]; rfl
  rw [hany] at hc
  have HC := Lib.hid hc; clear hc
  rw [he]
  clear he hany hr hv
  go_enter Tryz.func26, Tryz.ntmps26
  go_wp2_with (go_at_call 70; refine HC.out.mono ?_; rintro e w' ⟨rfl, rfl⟩)
  go_ret
  exact ⟨rfl, ifOk_no (by decide), Below.refl _ _⟩

set_option maxHeartbeats 1000000 in
theorem new_any (l : List Int) (A : Option Addr) (cp : Nat) (w : World) (hr : Reads w w.heap.size 1 A l.length (ints l)) (hl : l.length ≤ 9223372036854775807)
  (hv : ∀ v ∈ l, -9223372036854775808 ≤ v ∧ v ≤ 9223372036854775807) :
  Calls Tryz.prog 6 #[.slice A l.length cp] w fun e w' => e = .returned (.tuple #[.pointer (if errNew l = 0 then some ⟨w.heap.size, 0, none⟩ else none), .int .i64 (errNew l)]) ∧ IfOk (errNew l) (CalAt w.heap.size (setD l) w') ∧ Below w.heap.size w w' := by
 have hk : (w.alloc (.cells #[.map none] 106)).heap[w.heap.size]? = some (.cells #[.map none] 106 (0, 0)) := heap_alloc_new w _
 have hc := close_new w.heap.size l A cp (w.alloc (.cells #[.map none] 106)) hk (hr.alloc (Nat.le_refl _) _) hl hv
 obtain ⟨E, hE⟩ : ∃ E, errNew l = E := ⟨_, rfl⟩
 rw [hE] at hc ⊢
 obtain ⟨n, hn⟩ : ∃ n, l.length = n := ⟨_, rfl⟩
 rw [hn] at hc ⊢
 have HC := Lib.hid hc; clear hc hk hr hl hv hn
 have HE := Lib.hid hE; clear hE
 have hb0 : Below w.heap.size w (w.alloc (.cells #[.map none] 106)) := (Below.refl _ _).alloc (Nat.le_refl _) _
 by_cases h0 : E = 0
 ·subst h0
  rw [if_pos rfl]
  go_enter Tryz.func6, Tryz.ntmps6
  go_wp2_with (go_at_call 26; refine HC.out.mono ?_; rintro e w' ⟨rfl, hok, hb⟩)
  go_ret2
  exact ⟨rfl, hok, hb0.trans hb⟩
 ·rw [if_neg h0]
  have hne : (E != 0) = true := by simp [h0]
  have H0 := Lib.hid h0; clear h0
  go_enter Tryz.func6, Tryz.ntmps6
  go_wp2_with (go_at_call 26; refine HC.out.mono ?_; rintro e w' ⟨rfl, hok, hb⟩)
  go_ret2
  exact ⟨rfl, hok, hb0.trans hb⟩
end Go.Proofs.YtnpkplegeddhcaaGreat
namespace Go.Proofs.YtnpkplegeddhcaaGreat
open Go.RowKit Go.Maps

def byteAt (s : ByteArray) (i : Nat) : Nat := (s.data.toList[i]?.getD 0).toNat
theorem byteAt_is {s : ByteArray} {i : Nat} (h : i < s.size) : (s[i] : UInt8).toNat = byteAt s i := by
 unfold byteAt
 rw [byte_at s h]
 rfl
theorem byteAt_lt (s : ByteArray) (i : Nat) : byteAt s i < 256 := by unfold byteAt; exact UInt8.toNat_lt _
def okAt (s : ByteArray) (i : Nat) : Bool := decide (65 ≤ byteAt s i ∧ byteAt s i ≤ 90) || (decide (i ≠ 0) && decide (48 ≤ byteAt s i ∧ byteAt s i ≤ 57))
def validS (s : ByteArray) : Bool := decide (0 < s.size ∧ s.size ≤ 12) && (List.range s.size).all (okAt s)

set_option maxHeartbeats 2000000 in
theorem valid_any (s : ByteArray) (w : World) : Calls Tryz.prog 151 #[.string s] w fun e w' => e = .returned (.bool (validS s)) ∧ w = w' := by
 by_cases h0 : s.size = 0
 ·have hs : validS s = false := by unfold validS; rw [decide_eq_false (by omega)]; rfl
  obtain rfl : s = ⟨#[]⟩ := by
   obtain ⟨⟨l⟩⟩ := s
   have : l = [] := List.eq_nil_of_length_eq_zero h0
   rw [this]
  rw [hs]
  clear hs h0
  go_enter Tryz.func151, Tryz.ntmps151
  go_wp2
  go_ret
  exact ⟨rfl, rfl⟩
 ·have hne : s.toList.isEmpty = false := by
   rw [ByteArray.toList_eq]
   cases h : s.data.toList with
   | nil => exact absurd (by have := len_data s; rw [h] at this; exact this.symm) h0
   | cons a l => rfl
  by_cases h12 : 12 < s.size
  ·have hs : validS s = false := by unfold validS; rw [decide_eq_false (by omega)]; rfl
   rw [hs]
   clear hs
   go_enter Tryz.func151, Tryz.ntmps151
   go_wp2
   go_ret
   exact ⟨rfl, rfl⟩
  ·have hs : validS s = (List.range s.size).all (okAt s) := by unfold validS; rw [decide_eq_true (by omega)]; rfl
   rw [hs]
   have HV := Lib.hid hs
   clear hs
   obtain ⟨R, hR⟩ : ∃ R, (List.range s.size).all (okAt s) = R := ⟨_, rfl⟩
   rw [hR]
   have HR := Lib.hid hR; clear hR HV
   go_enter Tryz.func151, Tryz.ntmps151
   go_wp2
   go_loop [14] (fun i => ∃ k : Nat, k ≤ s.size ∧ i = .int .i64 k ∧ Hid (∀ j, j < k → okAt s j = true)) (fun i => s.size - (intOf i).toNat)
   case atStart => exact ⟨0, Nat.zero_le _, rfl, fun j h => absurd h (by omega)⟩
   case round =>
    obtain ⟨k, hk, rfl, HK⟩ := hrel
    by_cases hlt : k < s.size
    ·have hb := byteAt_is hlt
     have hb9 := byteAt_lt s k
     obtain ⟨c, hc⟩ : ∃ c, byteAt s k = c := ⟨_, rfl⟩
     rw [hc] at hb hb9
     have hdef : okAt s k = (decide (65 ≤ c ∧ c ≤ 90) || (decide (k ≠ 0) && decide (48 ≤ c ∧ c ≤ 57))) := by unfold okAt; rw [hc]
     have HD := Lib.hid hdef
     clear hc hdef
     rcases (show (65 ≤ c ∧ c ≤ 90) ∨ (k ≠ 0 ∧ 48 ≤ c ∧ c ≤ 57) ∨ (k = 0 ∧ c < 65) ∨ (k = 0 ∧ 90 < c) ∨ (k ≠ 0 ∧ c < 48) ∨ (k ≠ 0 ∧ 57 < c ∧ c < 65) ∨ (k ≠ 0 ∧ 90 < c) by omega) with ⟨g1, g2⟩ | ⟨g0, g1, g2⟩ | ⟨rfl, g1⟩ | ⟨rfl, g1⟩ | ⟨g0, g1⟩ | ⟨g0, g1, g2⟩ | ⟨g0, g1⟩
     ·have HOK : Hid (okAt s k = true) := by show _ = _; rw [HD.out, decide_eq_true ⟨g1, g2⟩]; rfl
      clear HD
      go_wp2
      go_round
      case rel =>
       refine ⟨k + 1, hlt, by go_num, fun j hj => ?_⟩
       rcases Nat.lt_or_ge j k with h | h
       ·exact HK.out j h
       ·obtain rfl : j = k := by omega
        exact HOK.out
      case measure => simp [intOf]; omega
     ·have HOK : Hid (okAt s k = true) := by show _ = _; rw [HD.out, decide_eq_true g0, decide_eq_true (show 48 ≤ c ∧ c ≤ 57 from ⟨g1, g2⟩)]; simp
      have hk0 : ((k : Int) == 0) = false := by simp; omega
      have HG0 := Lib.hid g0
      clear HD g0
      go_wp2
      go_round
      case rel =>
       refine ⟨k + 1, hlt, by go_num, fun j hj => ?_⟩
       rcases Nat.lt_or_ge j k with h | h
       ·exact HK.out j h
       ·obtain rfl : j = k := by omega
        exact HOK.out
      case measure => simp [intOf]; omega
     all_goals
      have HBAD : Hid (R = false) := by
       show _ = _
       rw [← HR.out, List.all_eq_false]
       refine ⟨_, List.mem_range.2 hlt, ?_⟩
       rw [HD.out, decide_eq_false (by omega)]
       simp
       try omega
      clear HD HR
     ·go_wp2
      go_ret
      exact ⟨ret_bool HBAD.out.symm, rfl⟩
     ·have hc90 : decide ((c : Int) ≤ 90) = false := decide_eq_false (by omega)
      go_wp2
      go_ret
      exact ⟨ret_bool HBAD.out.symm, rfl⟩
     all_goals
      have hk0 : ((k : Int) == 0) = false := by simp; omega
      have HG0 := Lib.hid g0
      clear g0
     ·go_wp2
      go_ret
      exact ⟨ret_bool HBAD.out.symm, rfl⟩
     ·go_wp2
      go_ret
      exact ⟨ret_bool HBAD.out.symm, rfl⟩
     ·have hc90 : decide ((c : Int) ≤ 90) = false := decide_eq_false (by omega)
      go_wp2
      go_ret
      exact ⟨ret_bool HBAD.out.symm, rfl⟩
    ·obtain rfl : k = s.size := by omega
     have hR : R = true := by
      rw [← HR.out, List.all_eq_true]
      intro j hj
      exact HK.out j (List.mem_range.1 hj)
     have HR2 := Lib.hid hR
     clear hR HR
     go_wp2
     go_ret
     exact ⟨ret_bool HR2.out.symm, rfl⟩

end Go.Proofs.YtnpkplegeddhcaaGreat
