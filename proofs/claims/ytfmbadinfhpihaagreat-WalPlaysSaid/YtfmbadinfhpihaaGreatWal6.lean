/-
  Package wal: mend, and the two steps of Commit, as contracts.
  Conditions: disks and logs that the call has made.
-/
import Derived.Test.YtfmbadinfhpihaaGreatWal3
import Derived.Test.YtfmbadinfhpihaaGreatShelf
set_option linter.unusedVariables false
set_option linter.unusedSimpArgs false
namespace Go.Proofs.YtfmbadinfhpihaaGreat
open Go.RowKit Go.Maps
set_option maxRecDepth 100000

theorem Dk.Ok.with_ {st : Dk} (h : st.Ok) {fs : DataW Unit} (hg : GoodF fs) (hf : Maps.size fs ≤ 1000000) (ht : totF fs ≤ 1000000000) : (st.with fs).Ok := ⟨hg, h.ops0, h.ops1, h.left0, h.left1, hf, ht⟩
theorem doD_ok {st : Dk} (h : st.Ok) (W : Dk → Int) (K : Dk → Dk) (hK : ∀ x : Dk, x.Ok → W x = 0 → (K x).Ok) : (doD st W K).2.Ok := by
  unfold doD
  have h1 := opD_ok h
  split
  · split
    · exact h1
    · split
      · rename_i hw
        exact hK _ h1 hw
      · exact h1
  · exact h
theorem lacks_zero {x : Dk} {s : ByteArray} (hw : lacksD x s = 0) : hasS x.fs s = true := by
  unfold lacksD at hw
  by_cases hh : hasS x.fs s = true
  · exact hh
  · rw [if_neg hh] at hw; omega
theorem create_ok {st : Dk} (h : st.Ok) (s : ByteArray) : (createD st s).2.Ok := doD_ok h _ _ fun x hx hw => by
  have hg := hx.good
  unfold createW at hw
  by_cases hv : validB s = true
  · rw [if_pos hv] at hw
    by_cases hh : hasS x.fs s = true
    · rw [if_pos hh] at hw; omega
    · rw [if_neg hh] at hw
      by_cases h40 : 40 ≤ Maps.size x.fs
      · rw [if_pos h40] at hw; omega
      · have hs := sizeF_put hg s ⟨#[]⟩ 0
        rw [if_neg hh] at hs
        have ht := totF_put_le hg s ⟨#[]⟩ 0
        have e : (⟨#[]⟩ : ByteArray).size = 0 := rfl
        have := hx.tot
        exact hx.with_ (hg.put s _ (Int.le_refl _) (Int.le_refl _)) (by omega) (by omega)
  · rw [if_neg hv] at hw; omega
theorem sync_ok {st : Dk} (h : st.Ok) (s : ByteArray) : (syncD st s).2.Ok := doD_ok h _ _ fun x hx hw => by
  have hg := hx.good
  have hh := lacks_zero hw
  have hs := sizeF_put hg s (fileAt x.fs s).1 ((fileAt x.fs s).1.size : Nat)
  rw [if_pos hh] at hs
  have t1 := totF_del hg s
  have t2 := totF_put hg s (fileAt x.fs s).1 ((fileAt x.fs s).1.size : Nat)
  have := hx.tot
  have := hx.few
  exact hx.with_ (hg.put s _ (by omega) (Int.le_refl _)) (by omega) (by omega)
theorem remove_ok {st : Dk} (h : st.Ok) (s : ByteArray) : (removeD st s).2.Ok := doD_ok h _ _ fun x hx hw => by
  have hg := hx.good
  have hs := sizeF_del hg s
  have t1 := totF_del_le hg s
  have := hx.tot
  have := hx.few
  exact hx.with_ (hg.del s) (by omega) (by omega)
theorem rename_ok {st : Dk} (h : st.Ok) (s t : ByteArray) : (renameD st s t).2.Ok := doD_ok h _ _ fun x hx hw => by
  have hg := hx.good
  have hh : hasS x.fs s = true := by
    unfold renameW at hw
    by_cases hh : hasS x.fs s = true
    · exact hh
    · rw [if_neg hh] at hw; omega
  obtain ⟨_, a0, a1⟩ := fileAt_form hg s
  have hs := sizeF_del hg s
  rw [if_pos hh] at hs
  have t1 := totF_del hg s
  have t2 := totF_put_le (hg.del s) t (fileAt x.fs s).1 (fileAt x.fs s).2
  have s2 := sizeF_put (hg.del s) t (fileAt x.fs s).1 (fileAt x.fs s).2
  have := hx.tot
  have := hx.few
  refine hx.with_ ((hg.del s).put t _ a0 a1) ?_ (by omega)
  rw [s2]
  split <;> omega
theorem size_app' (a b : ByteArray) : (a ++ b).size = a.size + b.size := ByteArray.size_append
theorem append_ok {st : Dk} (h : st.Ok) (s x : ByteArray) : (appendD st s x).2.Ok := by
  have h2 := opD_ok h
  unfold appendD
  by_cases hon : st.on = true
  · rw [if_pos hon]
    show (if appendW (opD st).1 s x = 0 then putsD (opD st).1 s x else (opD st).1).Ok
    obtain ⟨y, hy⟩ : ∃ y, (opD st).1 = y := ⟨_, rfl⟩
    rw [hy] at h2 ⊢
    by_cases hw : appendW y s x = 0
    · rw [if_pos hw]
      unfold appendW at hw
      have hg := h2.good
      by_cases hh : hasS y.fs s = true
      · rw [if_pos hh] at hw
        by_cases hf : 400000 < totF y.fs + x.size
        · rw [if_pos hf] at hw; omega
        · obtain ⟨_, a0, a1⟩ := fileAt_form hg s
          have hsz := size_app' (fileAt y.fs s).1 x
          have hs := sizeF_put hg s ((fileAt y.fs s).1 ++ x) (fileAt y.fs s).2
          rw [if_pos hh] at hs
          have t1 := totF_del hg s
          have t2 := totF_put hg s ((fileAt y.fs s).1 ++ x) (fileAt y.fs s).2
          have := h2.few
          exact h2.with_ (hg.put s _ a0 (by omega)) (by omega) (by omega)
      · rw [if_neg hh] at hw; omega
    · rw [if_neg hw]
      exact h2
  · rw [if_neg hon]
    exact h
/-- A cell that no step touches. -/
theorem mv_keep {c b k i : Nat} {w w' : World} {v : Value} (hm : Mv [c, b] [c, b] w w') (hk : k ≠ c ∧ k ≠ b) (h : w.cell? ⟨k, i, none⟩ = some v) : w'.cell? ⟨k, i, none⟩ = some v := by
  have hlt : k < w.heap.size := by
    rcases Nat.lt_or_ge k w.heap.size with hlt | hge
    · exact hlt
    · unfold World.cell? at h
      rw [Array.getElem?_eq_none hge] at h
      simp at h
  exact (World.cell?_of_block (a := ⟨k, i, none⟩) (hm.block k hlt (by simp [hk.1, hk.2]))).trans h

/-! ### steps one behind the other -/
/-- A function value: its number, what it has in hand. -/
structure Fv where
  f : Nat
  U : Array Value
def fvs (l : List Fv) : List Value := l.map fun x => .func (.func x.f) #[] x.U
def firstD : List (Dk → Int × Dk) → Dk → Int × Dk
  | [], st => (0, st)
  | f :: fs, st => if (f st).1 = 0 then firstD fs (f st).2 else f st
/-- A function value does a step on the disk, wherever nothing else has turned. -/
def Does (c b : Nat) (w : World) (x : Fv) (d : Dk → Int × Dk) : Prop :=
  (∀ W, (callFunc x.f x.U).run Tryz.prog W = .ok (.enter x.f x.U) W) ∧
  ∀ (st : Dk) (W : World), st.Ok → DkAt c b st W → Mv [c, b] [c, b] w W → Calls Tryz.prog x.f x.U W fun e W' => e = .returned (.int .i64 (d st).1) ∧ DkAt c b (d st).2 W' ∧ Mv [c, b] [c, b] W W'
theorem firstD_drop {D : List (Dk → Int × Dk)} {k : Nat} {d : Dk → Int × Dk} (h : D[k]? = some d) (st : Dk) : firstD (D.drop k) st = if (d st).1 = 0 then firstD (D.drop (k + 1)) (d st).2 else d st := by
  rw [drop_cons h]
  rfl
set_option maxHeartbeats 2000000 in
theorem first_any (c b : Nat) (st : Dk) (hok : st.Ok) (l : List Fv) (D : List (Dk → Int × Dk)) (hlen : l.length = D.length) (A : Option Addr) (cap B : Nat) (w : World) (h : DkAt c b st w) (hr : Reads w B 1 A l.length (fvs l)) (hB : B ≤ w.heap.size)
    (hA : ∀ ad, A = some ad → ad.block ≠ c ∧ ad.block ≠ b) (hl : l.length ≤ 1000) (hD : ∀ (k : Nat) (x : Fv) (d : Dk → Int × Dk), l[k]? = some x → D[k]? = some d → Does c b w x d ∧ ∀ st : Dk, st.Ok → (d st).2.Ok) :
    Calls Tryz.prog 46 #[.slice A l.length cap] w fun e w' => e = .returned (.int .i64 (firstD D st).1) ∧ DkAt c b (firstD D st).2 w' ∧ Mv [c, b] [c, b] w w' := by
  obtain ⟨n, hn⟩ : ∃ n, l.length = n := ⟨_, rfl⟩
  obtain ⟨R, hR⟩ : ∃ R, firstD D st = R := ⟨_, rfl⟩
  rw [hn] at hr hl hlen ⊢
  rw [hR]
  have HR := Lib.hid hR
  have HRD := Lib.hid hr
  have HD := Lib.hid hD
  have HLEN := Lib.hid hlen
  have HN := Lib.hid hn
  have HK := Lib.hid h
  have HOK := Lib.hid hok
  have HA := Lib.hid hA
  clear hR hr hD hlen hn h hok hA
  go_enter Tryz.func46, Tryz.ntmps46
  go_wp2
  go_loopw [8] (fun i wr => ∃ (k : Nat), k ≤ n ∧ i = .int .i64 k ∧ Hid (∃ st' : Dk, st'.Ok ∧ DkAt c b st' wr ∧ firstD (D.drop k) st' = R) ∧ Hid (Mv [c, b] [c, b] w wr)) (fun i _ => n - (intOf i).toNat)
  case atStart => exact ⟨0, Nat.zero_le _, rfl, ⟨st, HOK.out, HK.out, HR.out⟩, Mv.refl _ _⟩
  case round =>
    obtain ⟨k, hk, rfl, HS, HM⟩ := hrel
    obtain ⟨st', hok', hdk, hres⟩ := HS.out
    have HDK := Lib.hid hdk
    have HOK' := Lib.hid hok'
    have HRES := Lib.hid hres
    clear hdk hok' hres HS
    by_cases hlt : k < n
    · obtain ⟨ad, u, rfl, hab, hu, hcell⟩ := HRD.out.at_ hlt
      obtain ⟨x, hx, rfl⟩ : ∃ x, l[k]? = some x ∧ Value.func (.func x.f) #[] x.U = u := by simpa [fvs] using hu
      obtain ⟨d, hd⟩ : ∃ d, D[k]? = some d := ⟨_, List.getElem?_eq_getElem (by have := HLEN.out; omega)⟩
      obtain ⟨hdo, hdok⟩ := HD.out k x d hx hd
      have hbk := HA.out ad rfl
      have hc' : wr.cell? (ad.add k) = some (.func (.func x.f) #[] x.U) := by
        rw [World.cell?_of_block (HM.out.block (ad.add k).block (by rw [block_of_add]; omega) (by rw [block_of_add]; simp [hbk.1, hbk.2]))]
        exact hcell
      have hstep := firstD_drop hd st'
      obtain ⟨xf, xU⟩ := x
      have hen := hdo.1
      have q := hdo.2 st' wr HOK'.out HDK.out HM.out
      have hok2 := hdok st' HOK'.out
      obtain ⟨r, hr⟩ : ∃ r, d st' = r := ⟨_, rfl⟩
      rw [hr] at q hok2 hstep
      have hres := HRES.out
      rw [hstep] at hres
      have HOK2 := Lib.hid hok2
      clear hr hstep hu hx hd hdo hdok hcell hok2 hbk
      obtain ⟨r1, r2⟩ := r
      by_cases h0 : r1 = 0
      · rw [if_pos h0] at hres
        have hb0 : (r1 != 0) = false := by rw [h0]; rfl
        have HRES2 := Lib.hid hres
        clear hres h0
        go_wp2_with fail
        refine q.mono ?_
        rintro e w2 ⟨rfl, h2, hm2⟩
        have HS2 : Hid (∃ st' : Dk, st'.Ok ∧ DkAt c b st' w2 ∧ firstD (D.drop (k + 1)) st' = R) := ⟨_, HOK2.out, h2, HRES2.out⟩
        have HM2 := Lib.hid (HM.out.trans hm2)
        clear q h2 hm2 hc' hen
        go_wp2
        go_roundw
        case rel => exact ⟨k + 1, hlt, by go_num, HS2.out, HM2.out⟩
        case measure => simp [intOf]; omega
      · rw [if_neg h0] at hres
        have hb0 : (r1 != 0) = true := by simpa using h0
        subst hres
        clear h0
        go_wp2_with fail
        refine q.mono ?_
        rintro e w2 ⟨rfl, h2, hm2⟩
        have H2 := Lib.hid h2
        have HM2 := Lib.hid (HM.out.trans hm2)
        clear q h2 hm2 hc' hen
        go_wp2
        go_ret
        exact ⟨rfl, H2.out, HM2.out⟩
    · have hres := HRES.out
      rw [List.drop_eq_nil_of_le (by have := HLEN.out; omega)] at hres
      subst hres
      go_wp2
      go_ret
      exact ⟨rfl, HDK.out, HM.out⟩

/-! ### a file removed, if it is there -/
def removeIf (s : ByteArray) (st : Dk) : Int × Dk := if hasS st.fs s = true then removeD st s else (0, st)
theorem removeIf_ok {st : Dk} (h : st.Ok) (s : ByteArray) : (removeIf s st).2.Ok := by
  unfold removeIf
  split
  · exact remove_ok h s
  · exact h
set_option maxHeartbeats 1000000 in
theorem files_own (c b : Nat) (st : Dk) (hok : st.Ok) (w : World) (h : DkAt c b st w) :
    Calls Tryz.prog 20 #[.pointer (some ⟨c, 0, none⟩)] w fun e w' => ∃ v, e = .returned v ∧ w'.ownsRow w.heap.size 9 1 v (lstS st.fs).length (strs (lstS st.fs)) ∧ Below w.heap.size w w' := by
  have hS := sorted_any b _ st.fs w h.2.1 hok.few
  have hlen := lstS_len hok.good.keys
  have c4 := h.cell4
  have HS := Lib.hid hS
  have HL := Lib.hid hlen
  clear hS h hlen hok
  go_enter Tryz.func20, Tryz.ntmps20
  go_wp2_with fail
  refine (keys_any _ _).mono ?_
  rintro e w1 ⟨rfl, rfl⟩
  go_wp2_with fail
  refine HS.out.mono ?_
  rintro e w2 ⟨v, ss, rfl, hp, hown, _, hb2⟩
  have hsort : ss.mergeSort (fun x y => decide (x ≤ y)) = (strKeys st.fs).mergeSort leB := mergeSort_of_perm hp
  rw [hsort] at hown
  have hln : ss.length = (lstS st.fs).length := by rw [hp.length_eq]; unfold lstS; rw [List.length_map, List.length_mergeSort]
  rw [encs, hln] at hown
  have hown2 : w2.ownsRow (w.heap.size + 1) 9 1 v (lstS st.fs).length (strs (lstS st.fs)) := hown
  have HO : Hid (w2.ownsRow w.heap.size 9 1 v (lstS st.fs).length (strs (lstS st.fs))) := by
    refine ⟨hown2.1, ?_⟩
    rcases hown2.2 with h | ⟨g, cap, cur, h1, h2, h3⟩
    · exact .inl h
    · exact .inr ⟨g, cap, cur, h1, by omega, h3⟩
  have hbl : Below w.heap.size w w2 := ((Below.refl w.heap.size w).alloc (Nat.le_refl _) _).trans (hb2.mono (by omega))
  have HBL := Lib.hid hbl
  clear hbl hown hown2 hb2 hp hsort hln HS HL
  go_wp2
  go_ret
  exact ⟨v, rfl, HO.out, HBL.out⟩
theorem contains_any (ss : List ByteArray) (v : Value) (n B : Nat) (s : ByteArray) (w : World) (hn : ss.length = n) (ho : w.ownsRow B 9 1 v n (strs ss)) (hb : n ≤ 1000000) :
    Calls Tryz.prog 212 #[v, .string s] w fun e w' => e = .returned (.bool (Lib.containsS ss s)) ∧ w = w' := by
  obtain ⟨A, cap, rfl, _⟩ := own_form ho
  rcases Nat.eq_zero_or_pos n with h0 | h0
  · subst h0
    have : ss = [] := List.eq_nil_of_length_eq_zero hn
    subst this
    refine (Tryz.slices_Contains_string_empty A cap s w).mono ?_
    rintro e w' ⟨rfl, rfl⟩
    exact ⟨rfl, rfl⟩
  · obtain ⟨g, cap', hv, _, hlt⟩ := ho.form h0
    injection hv with hA _ _
    subst hA
    have hc := ho.cells (g := g) rfl
    refine (Tryz.slices_Contains_string g 0 n cap ss s w (by omega) (by omega) (fun j hj => ?_)).mono ?_
    · have := hc j (.string ss[j]) (by simp [strs, hj])
      rw [List.getD_eq_getElem?_getD, List.getElem?_eq_getElem hj]
      unfold Addr.add at this
      split at this
      · rename_i h1; subst h1; exact this
      · exact this
    · rintro e w' ⟨rfl, rfl⟩
      rw [List.take_of_length_le (by omega)]
      exact ⟨rfl, rfl⟩
theorem contains_lst {st : Dk} (h : st.Ok) (s : ByteArray) : Lib.containsS (lstS st.fs) s = hasS st.fs s := by
  rw [Bool.eq_iff_iff, Lib.containsS_iff]
  exact mem_lstS h.good.keys s
set_option maxHeartbeats 1000000 in
theorem wremove_any (c b : Nat) (st : Dk) (hok : st.Ok) (s : ByteArray) (hs : s.size ≤ 9223372036854775807) (w : World) (h : DkAt c b st w) :
    Calls Tryz.prog 149 #[.pointer (some ⟨c, 0, none⟩), .string s] w fun e w' => e = .returned (.int .i64 (removeIf s st).1) ∧ DkAt c b (removeIf s st).2 w' ∧ Mv [c, b] [c, b] w w' := by
  have q := files_own c b st hok w h
  have hlen := lstS_len hok.good.keys
  have hfew := hok.few
  have hcl := contains_lst hok s
  have hll : (lstS st.fs).length ≤ 1000000 := by omega
  have HLL := Lib.hid hll
  have HCL := Lib.hid hcl
  have q3 := fun W (h' : DkAt c b st W) => Lib.hid (remove_any c b st hok s hs W h')
  have HK := Lib.hid h
  have hlc := h.lt
  have hlb := h.ltb
  unfold removeIf
  obtain ⟨x, hx⟩ : ∃ x, hasS st.fs s = x := ⟨_, rfl⟩
  rw [hx] at HCL ⊢
  obtain ⟨r, hr⟩ : ∃ r, removeD st s = r := ⟨_, rfl⟩
  rw [hr] at q3 ⊢
  clear hlen hfew hcl hll h hx hr hok
  cases x
  · rw [if_neg (show ¬ (false = true) by decide)]
    go_enter Tryz.func149, Tryz.ntmps149
    go_wp2_with fail
    refine q.mono ?_
    rintro e w1 ⟨v, rfl, hown, hb1⟩
    have q2 := contains_any (lstS st.fs) v _ _ s w1 rfl hown HLL.out
    rw [HCL.out] at q2
    have HK1 := Lib.hid (HK.out.below hb1 hlc hlb)
    have HM1 := Lib.hid ((Mv.refl [c, b] w).then_below hb1)
    obtain ⟨A, cap, rfl, _⟩ := own_form hown
    obtain ⟨n, hn⟩ : ∃ n, (lstS st.fs).length = n := ⟨_, rfl⟩
    rw [hn] at q2 ⊢
    clear hown hb1 q hn
    go_wp2_with fail
    refine q2.mono ?_
    rintro e w2 ⟨rfl, rfl⟩
    go_wp2
    go_ret
    exact ⟨rfl, HK1.out, HM1.out⟩
  · rw [if_pos rfl]
    go_enter Tryz.func149, Tryz.ntmps149
    go_wp2_with fail
    refine q.mono ?_
    rintro e w1 ⟨v, rfl, hown, hb1⟩
    have q2 := contains_any (lstS st.fs) v _ _ s w1 rfl hown HLL.out
    rw [HCL.out] at q2
    have HK1 := Lib.hid (HK.out.below hb1 hlc hlb)
    have HM1 := Lib.hid ((Mv.refl [c, b] w).then_below hb1)
    obtain ⟨A, cap, rfl, _⟩ := own_form hown
    obtain ⟨n, hn⟩ : ∃ n, (lstS st.fs).length = n := ⟨_, rfl⟩
    rw [hn] at q2 ⊢
    clear hown hb1 q hn
    have q4 := q3 w1 HK1.out
    go_wp2_with fail
    refine q2.mono ?_
    rintro e w2 ⟨rfl, rfl⟩
    go_wp2_with fail
    refine q4.out.mono ?_
    rintro e w2 ⟨rfl, h2, hm2⟩
    have HK2 := Lib.hid h2
    have HM2 := Lib.hid (HM1.out.trans hm2)
    clear h2 hm2
    go_wp2
    go_ret
    exact ⟨rfl, HK2.out, HM2.out⟩
end Go.Proofs.YtfmbadinfhpihaaGreat
namespace Go.Proofs.YtfmbadinfhpihaaGreat
open Go.RowKit Go.Maps
set_option maxRecDepth 100000


set_option maxHeartbeats 1000000 in
theorem mend1_any (c b p g q : Nat) (st : Dk) (hok : st.Ok) (s : ByteArray) (hs : s.size ≤ 9223372036854775807) (w : World) (h : DkAt c b st w) (el : w.cell? ⟨p, 0, none⟩ = some (.pointer (some ⟨g, 0, none⟩))) (ed : w.cell? ⟨g, 0, none⟩ = some (.pointer (some ⟨c, 0, none⟩))) (eq : w.cell? ⟨q, 0, none⟩ = some (.string s)) (np : p ≠ c ∧ p ≠ b) (ng : g ≠ c ∧ g ≠ b) (nq : q ≠ c ∧ q ≠ b) :
    Calls Tryz.prog 148 #[.pointer (some ⟨p, 0, none⟩), .pointer (some ⟨q, 0, none⟩)] w fun e w' => e = .returned (.int .i64 (removeIf s st).1) ∧ DkAt c b (removeIf s st).2 w' ∧ Mv [c, b] [c, b] w w' := by
  have qc := wremove_any c b st hok s hs w.drew h
  obtain ⟨r, hr⟩ : ∃ r, removeIf s st = r := ⟨_, rfl⟩
  rw [hr] at qc ⊢
  clear hr h hok
  go_enter Tryz.func148, Tryz.ntmps148
  go_wp2
  go_region_held3 (fun W => W.cell? ⟨p, 0, none⟩ = some (.pointer (some ⟨g, 0, none⟩)) ∧ W.cell? ⟨g, 0, none⟩ = some (.pointer (some ⟨c, 0, none⟩)) ∧ W.cell? ⟨q, 0, none⟩ = some (.string s)) (first | exact ⟨el, ed, eq⟩ | exact ⟨mv_keep hm2 np el, mv_keep hm2 ng ed, mv_keep hm2 nq eq⟩)
    (first | (go_at_call 149; (with_reducible refine qc.mono ?_); rintro e w2 ⟨rfl, h2, hm2⟩))
  have H2 := Lib.hid h2
  have HM2 := Lib.hid (((Mv.refl [c, b] w).drewN 1).trans hm2)
  clear h2 hm2 qc
  go_wp2
  go_ret
  exact ⟨rfl, H2.out, HM2.out⟩

set_option maxHeartbeats 1000000 in
theorem mend2_any (c b p g q : Nat) (st : Dk) (hok : st.Ok) (s : ByteArray) (hs : s.size ≤ 9223372036854775807) (w : World) (h : DkAt c b st w) (el : w.cell? ⟨p, 0, none⟩ = some (.pointer (some ⟨g, 0, none⟩))) (ed : w.cell? ⟨g, 0, none⟩ = some (.pointer (some ⟨c, 0, none⟩))) (eq : w.cell? ⟨q, 0, none⟩ = some (.string s)) (np : p ≠ c ∧ p ≠ b) (ng : g ≠ c ∧ g ≠ b) (nq : q ≠ c ∧ q ≠ b) :
    Calls Tryz.prog 150 #[.pointer (some ⟨p, 0, none⟩), .pointer (some ⟨q, 0, none⟩)] w fun e w' => e = .returned (.int .i64 (createD st s).1) ∧ DkAt c b (createD st s).2 w' ∧ Mv [c, b] [c, b] w w' := by
  have qc := create_any c b st hok s hs w.drew h
  obtain ⟨r, hr⟩ : ∃ r, createD st s = r := ⟨_, rfl⟩
  rw [hr] at qc ⊢
  clear hr h hok
  go_enter Tryz.func150, Tryz.ntmps150
  go_wp2
  go_region_held3 (fun W => W.cell? ⟨p, 0, none⟩ = some (.pointer (some ⟨g, 0, none⟩)) ∧ W.cell? ⟨g, 0, none⟩ = some (.pointer (some ⟨c, 0, none⟩)) ∧ W.cell? ⟨q, 0, none⟩ = some (.string s)) (first | exact ⟨el, ed, eq⟩ | exact ⟨mv_keep hm2 np el, mv_keep hm2 ng ed, mv_keep hm2 nq eq⟩)
    (first | (go_at_call 28; (with_reducible refine qc.mono ?_); rintro e w2 ⟨rfl, h2, hm2⟩))
  have H2 := Lib.hid h2
  have HM2 := Lib.hid (((Mv.refl [c, b] w).drewN 1).trans hm2)
  clear h2 hm2 qc
  go_wp2
  go_ret
  exact ⟨rfl, H2.out, HM2.out⟩

set_option maxHeartbeats 1000000 in
theorem mend3_any (c b p g q x : Nat) (st : Dk) (hok : st.Ok) (s : ByteArray) (hs : s.size ≤ 9223372036854775807) (y : ByteArray) (hy : y.size ≤ 1000000000) (sz : Nat) (hsz : sz ≤ y.size) (w : World) (h : DkAt c b st w) (el : w.cell? ⟨p, 0, none⟩ = some (.pointer (some ⟨g, 0, none⟩))) (ed : w.cell? ⟨g, 0, none⟩ = some (.pointer (some ⟨c, 0, none⟩))) (eq : w.cell? ⟨q, 0, none⟩ = some (.string s)) (ex : w.cell? ⟨x, 0, none⟩ = some (.string y)) (ez : w.cell? ⟨g, 4, none⟩ = some (.int .i64 sz)) (np : p ≠ c ∧ p ≠ b) (ng : g ≠ c ∧ g ≠ b) (nq : q ≠ c ∧ q ≠ b) (nx : x ≠ c ∧ x ≠ b) :
    Calls Tryz.prog 151 #[.pointer (some ⟨p, 0, none⟩), .pointer (some ⟨q, 0, none⟩), .pointer (some ⟨x, 0, none⟩)] w fun e w' => e = .returned (.int .i64 (appendD st s (y.extract 0 sz)).1) ∧ DkAt c b (appendD st s (y.extract 0 sz)).2 w' ∧ Mv [c, b] [c, b] w w' := by
  have qc := append_any c b st hok s (y.extract 0 sz) hs (by rw [Sm.extract_size _ _ _ hsz]; omega) w.drew h
  obtain ⟨r, hr⟩ : ∃ r, appendD st s (y.extract 0 sz) = r := ⟨_, rfl⟩
  rw [hr] at qc ⊢
  clear hr h hok
  have b1 : (0 : Int) ≤ (sz : Int) := by omega
  have b2 : (sz : Int) ≤ (y.size : Int) := by omega
  go_enter Tryz.func151, Tryz.ntmps151
  go_wp2
  go_region_held3 (fun W => W.cell? ⟨p, 0, none⟩ = some (.pointer (some ⟨g, 0, none⟩)) ∧ W.cell? ⟨g, 0, none⟩ = some (.pointer (some ⟨c, 0, none⟩)) ∧ W.cell? ⟨q, 0, none⟩ = some (.string s) ∧ W.cell? ⟨x, 0, none⟩ = some (.string y) ∧ W.cell? ⟨g, 4, none⟩ = some (.int .i64 sz)) (first | exact ⟨el, ed, eq, ex, ez⟩ | exact ⟨mv_keep hm2 np el, mv_keep hm2 ng ed, mv_keep hm2 nq eq, mv_keep hm2 nx ex, mv_keep hm2 ng ez⟩)
    (first | (go_at_call 17; (with_reducible refine qc.mono ?_); rintro e w2 ⟨rfl, h2, hm2⟩))
  have H2 := Lib.hid h2
  have HM2 := Lib.hid (((Mv.refl [c, b] w).drewN 1).trans hm2)
  clear h2 hm2 qc
  go_wp2
  go_ret
  exact ⟨rfl, H2.out, HM2.out⟩

set_option maxHeartbeats 1000000 in
theorem mend4_any (c b p g q : Nat) (st : Dk) (hok : st.Ok) (s : ByteArray) (hs : s.size ≤ 9223372036854775807) (w : World) (h : DkAt c b st w) (el : w.cell? ⟨p, 0, none⟩ = some (.pointer (some ⟨g, 0, none⟩))) (ed : w.cell? ⟨g, 0, none⟩ = some (.pointer (some ⟨c, 0, none⟩))) (eq : w.cell? ⟨q, 0, none⟩ = some (.string s)) (np : p ≠ c ∧ p ≠ b) (ng : g ≠ c ∧ g ≠ b) (nq : q ≠ c ∧ q ≠ b) :
    Calls Tryz.prog 152 #[.pointer (some ⟨p, 0, none⟩), .pointer (some ⟨q, 0, none⟩)] w fun e w' => e = .returned (.int .i64 (syncD st s).1) ∧ DkAt c b (syncD st s).2 w' ∧ Mv [c, b] [c, b] w w' := by
  have qc := sync_any c b st hok s hs w.drew h
  obtain ⟨r, hr⟩ : ∃ r, syncD st s = r := ⟨_, rfl⟩
  rw [hr] at qc ⊢
  clear hr h hok
  go_enter Tryz.func152, Tryz.ntmps152
  go_wp2
  go_region_held3 (fun W => W.cell? ⟨p, 0, none⟩ = some (.pointer (some ⟨g, 0, none⟩)) ∧ W.cell? ⟨g, 0, none⟩ = some (.pointer (some ⟨c, 0, none⟩)) ∧ W.cell? ⟨q, 0, none⟩ = some (.string s)) (first | exact ⟨el, ed, eq⟩ | exact ⟨mv_keep hm2 np el, mv_keep hm2 ng ed, mv_keep hm2 nq eq⟩)
    (first | (go_at_call 49; (with_reducible refine qc.mono ?_); rintro e w2 ⟨rfl, h2, hm2⟩))
  have H2 := Lib.hid h2
  have HM2 := Lib.hid (((Mv.refl [c, b] w).drewN 1).trans hm2)
  clear h2 hm2 qc
  go_wp2
  go_ret
  exact ⟨rfl, H2.out, HM2.out⟩

set_option maxHeartbeats 1000000 in
theorem mend5_any (c b p g q : Nat) (st : Dk) (hok : st.Ok) (s : ByteArray) (hs : s.size ≤ 9223372036854775807) (nm : ByteArray) (w : World) (h : DkAt c b st w) (el : w.cell? ⟨p, 0, none⟩ = some (.pointer (some ⟨g, 0, none⟩))) (ed : w.cell? ⟨g, 0, none⟩ = some (.pointer (some ⟨c, 0, none⟩))) (eq : w.cell? ⟨q, 0, none⟩ = some (.string s)) (en : w.cell? ⟨g, 1, none⟩ = some (.string nm)) (np : p ≠ c ∧ p ≠ b) (ng : g ≠ c ∧ g ≠ b) (nq : q ≠ c ∧ q ≠ b) :
    Calls Tryz.prog 153 #[.pointer (some ⟨p, 0, none⟩), .pointer (some ⟨q, 0, none⟩)] w fun e w' => e = .returned (.int .i64 (renameD st s nm).1) ∧ DkAt c b (renameD st s nm).2 w' ∧ Mv [c, b] [c, b] w w' := by
  have qc := rename_any c b st hok s nm hs w.drew h
  obtain ⟨r, hr⟩ : ∃ r, renameD st s nm = r := ⟨_, rfl⟩
  rw [hr] at qc ⊢
  clear hr h hok
  go_enter Tryz.func153, Tryz.ntmps153
  go_wp2
  go_region_held3 (fun W => W.cell? ⟨p, 0, none⟩ = some (.pointer (some ⟨g, 0, none⟩)) ∧ W.cell? ⟨g, 0, none⟩ = some (.pointer (some ⟨c, 0, none⟩)) ∧ W.cell? ⟨q, 0, none⟩ = some (.string s) ∧ W.cell? ⟨g, 1, none⟩ = some (.string nm)) (first | exact ⟨el, ed, eq, en⟩ | exact ⟨mv_keep hm2 np el, mv_keep hm2 ng ed, mv_keep hm2 nq eq, mv_keep hm2 ng en⟩)
    (first | (go_at_call 154; (with_reducible refine qc.mono ?_); rintro e w2 ⟨rfl, h2, hm2⟩))
  have H2 := Lib.hid h2
  have HM2 := Lib.hid (((Mv.refl [c, b] w).drewN 1).trans hm2)
  clear h2 hm2 qc
  go_wp2
  go_ret
  exact ⟨rfl, H2.out, HM2.out⟩

set_option maxHeartbeats 1000000 in
theorem commit2_any (c b p g x : Nat) (st : Dk) (hok : st.Ok) (nm : ByteArray) (hn : nm.size ≤ 9223372036854775807) (y : ByteArray) (hy : y.size ≤ 1000000000) (w : World) (h : DkAt c b st w) (el : w.cell? ⟨p, 0, none⟩ = some (.pointer (some ⟨g, 0, none⟩))) (ed : w.cell? ⟨g, 0, none⟩ = some (.pointer (some ⟨c, 0, none⟩))) (en : w.cell? ⟨g, 1, none⟩ = some (.string nm)) (ex : w.cell? ⟨x, 0, none⟩ = some (.string y)) (np : p ≠ c ∧ p ≠ b) (ng : g ≠ c ∧ g ≠ b) (nx : x ≠ c ∧ x ≠ b) :
    Calls Tryz.prog 47 #[.pointer (some ⟨p, 0, none⟩), .pointer (some ⟨x, 0, none⟩)] w fun e w' => e = .returned (.int .i64 (appendD st nm y).1) ∧ DkAt c b (appendD st nm y).2 w' ∧ Mv [c, b] [c, b] w w' := by
  have qc := append_any c b st hok nm y hn (by omega) w.drew h
  obtain ⟨r, hr⟩ : ∃ r, appendD st nm y = r := ⟨_, rfl⟩
  rw [hr] at qc ⊢
  clear hr h hok
  go_enter Tryz.func47, Tryz.ntmps47
  go_wp2
  go_region_held3 (fun W => W.cell? ⟨p, 0, none⟩ = some (.pointer (some ⟨g, 0, none⟩)) ∧ W.cell? ⟨g, 0, none⟩ = some (.pointer (some ⟨c, 0, none⟩)) ∧ W.cell? ⟨g, 1, none⟩ = some (.string nm) ∧ W.cell? ⟨x, 0, none⟩ = some (.string y)) (first | exact ⟨el, ed, en, ex⟩ | exact ⟨mv_keep hm2 np el, mv_keep hm2 ng ed, mv_keep hm2 ng en, mv_keep hm2 nx ex⟩)
    (first | (go_at_call 17; (with_reducible refine qc.mono ?_); rintro e w2 ⟨rfl, h2, hm2⟩))
  have H2 := Lib.hid h2
  have HM2 := Lib.hid (((Mv.refl [c, b] w).drewN 1).trans hm2)
  clear h2 hm2 qc
  go_wp2
  go_ret
  exact ⟨rfl, H2.out, HM2.out⟩

set_option maxHeartbeats 1000000 in
theorem commit3_any (c b p g : Nat) (st : Dk) (hok : st.Ok) (nm : ByteArray) (hn : nm.size ≤ 9223372036854775807) (w : World) (h : DkAt c b st w) (el : w.cell? ⟨p, 0, none⟩ = some (.pointer (some ⟨g, 0, none⟩))) (ed : w.cell? ⟨g, 0, none⟩ = some (.pointer (some ⟨c, 0, none⟩))) (en : w.cell? ⟨g, 1, none⟩ = some (.string nm)) (np : p ≠ c ∧ p ≠ b) (ng : g ≠ c ∧ g ≠ b) :
    Calls Tryz.prog 48 #[.pointer (some ⟨p, 0, none⟩)] w fun e w' => e = .returned (.int .i64 (syncD st nm).1) ∧ DkAt c b (syncD st nm).2 w' ∧ Mv [c, b] [c, b] w w' := by
  have qc := sync_any c b st hok nm hn w.drew h
  obtain ⟨r, hr⟩ : ∃ r, syncD st nm = r := ⟨_, rfl⟩
  rw [hr] at qc ⊢
  clear hr h hok
  go_enter Tryz.func48, Tryz.ntmps48
  go_wp2
  go_region_held3 (fun W => W.cell? ⟨p, 0, none⟩ = some (.pointer (some ⟨g, 0, none⟩)) ∧ W.cell? ⟨g, 0, none⟩ = some (.pointer (some ⟨c, 0, none⟩)) ∧ W.cell? ⟨g, 1, none⟩ = some (.string nm)) (first | exact ⟨el, ed, en⟩ | exact ⟨mv_keep hm2 np el, mv_keep hm2 ng ed, mv_keep hm2 ng en⟩)
    (first | (go_at_call 49; (with_reducible refine qc.mono ?_); rintro e w2 ⟨rfl, h2, hm2⟩))
  have H2 := Lib.hid h2
  have HM2 := Lib.hid (((Mv.refl [c, b] w).drewN 1).trans hm2)
  clear h2 hm2 qc
  go_wp2
  go_ret
  exact ⟨rfl, H2.out, HM2.out⟩

end Go.Proofs.YtfmbadinfhpihaaGreat
namespace Go.Proofs.YtfmbadinfhpihaaGreat
open Go.RowKit Go.Maps
set_option maxRecDepth 100000

def spareOf (nm : ByteArray) : ByteArray := nm ++ ⟨#[126]⟩
def mendD (nm y : ByteArray) (sz : Nat) : List (Dk → Int × Dk) :=
  [removeIf (spareOf nm), fun st => createD st (spareOf nm), fun st => appendD st (spareOf nm) (y.extract 0 sz), fun st => syncD st (spareOf nm), fun st => renameD st (spareOf nm) nm]
def commitD (nm y : ByteArray) : List (Dk → Int × Dk) := [fun st => appendD st nm y, fun st => syncD st nm]
theorem cell_new1 (w : World) (v : Value) (t : TypeId) : (w.alloc (.cells #[v] t)).cell? ⟨w.heap.size, 0, none⟩ = some v := by
  rw [Lib.cell_of_heap (heap_alloc_new w _)]; rfl
theorem cell_old (w : World) (o : Obj) {k i : Nat} {v : Value} (h : w.cell? ⟨k, i, none⟩ = some v) (hk : k < w.heap.size) : (w.alloc o).cell? ⟨k, i, none⟩ = some v := (World.cell?_alloc_lt w o ⟨k, i, none⟩ hk).trans h
set_option maxHeartbeats 2000000 in
theorem mend_any (g c b : Nat) (T : List Nat) (nm : ByteArray) (lg : Lg) (st : Dk) (hok : st.Ok) (y : ByteArray) (w : World) (h : LogAt g c T nm lg w) (hd : DkAt c b st w) (hgc : g ≠ c) (hgb : g ≠ b) (hn : nm.size ≤ 1000000) (hy : y.size ≤ 1000000000) (hsz : lg.size ≤ y.size) :
    Calls Tryz.prog 41 #[.pointer (some ⟨g, 0, none⟩), .string y] w fun e w' => e = .returned (.int .i64 (firstD (mendD nm y lg.size) st).1) ∧ DkAt c b (firstD (mendD nm y lg.size) st).2 w' ∧ Mv [c, b] [c, b] w w' := by
  have hg := h.lt
  have hc := hd.lt
  have hb := hd.ltb
  have e0 := h.cell0; have e1 := h.cell1; have e4 := h.cell4
  obtain ⟨W1, hW1⟩ : ∃ W, w.alloc (.cells #[.pointer (some ⟨g, 0, none⟩)] 24) = W := ⟨_, rfl⟩
  have z1 : W1.heap.size = w.heap.size + 1 := by rw [← hW1]; simp
  obtain ⟨W2, hW2⟩ : ∃ W, W1.alloc (.cells #[.string y] 9) = W := ⟨_, rfl⟩
  have z2 : W2.heap.size = w.heap.size + 2 := by rw [← hW2]; simp; omega
  obtain ⟨W3, hW3⟩ : ∃ W, W2.alloc (.cells #[.string (spareOf nm)] 9) = W := ⟨_, rfl⟩
  have z3 : W3.heap.size = w.heap.size + 3 := by rw [← hW3]; simp; omega
  obtain ⟨l, hl⟩ : ∃ l : List Fv, l = [⟨148, #[.pointer (some ⟨w.heap.size, 0, none⟩), .pointer (some ⟨w.heap.size + 2, 0, none⟩)]⟩, ⟨150, #[.pointer (some ⟨w.heap.size, 0, none⟩), .pointer (some ⟨w.heap.size + 2, 0, none⟩)]⟩,
    ⟨151, #[.pointer (some ⟨w.heap.size, 0, none⟩), .pointer (some ⟨w.heap.size + 2, 0, none⟩), .pointer (some ⟨w.heap.size + 1, 0, none⟩)]⟩, ⟨152, #[.pointer (some ⟨w.heap.size, 0, none⟩), .pointer (some ⟨w.heap.size + 2, 0, none⟩)]⟩,
    ⟨153, #[.pointer (some ⟨w.heap.size, 0, none⟩), .pointer (some ⟨w.heap.size + 2, 0, none⟩)]⟩] := ⟨_, rfl⟩
  have hll : l.length = 5 := by rw [hl]; rfl
  obtain ⟨W4, hW4⟩ : ∃ W, W3.alloc (.cells (fvs l).toArray 105) = W := ⟨_, rfl⟩
  have z4 : W4.heap.size = w.heap.size + 4 := by rw [← hW4]; simp; omega
  have k4 : ∀ {k i : Nat} {v : Value}, w.cell? ⟨k, i, none⟩ = some v → k < w.heap.size → W4.cell? ⟨k, i, none⟩ = some v := by
    intro k i v h1 h2
    rw [← hW4, ← hW3, ← hW2, ← hW1]
    exact cell_old _ _ (cell_old _ _ (cell_old _ _ (cell_old _ _ h1 h2) (by simp; omega)) (by simp; omega)) (by simp; omega)
  have p0 : W4.cell? ⟨w.heap.size, 0, none⟩ = some (.pointer (some ⟨g, 0, none⟩)) := by
    rw [← hW4]; refine cell_old _ _ ?_ (by omega)
    rw [← hW3]; refine cell_old _ _ ?_ (by omega)
    rw [← hW2]; refine cell_old _ _ ?_ (by omega)
    rw [← hW1]; exact cell_new1 _ _ _
  have p1 : W4.cell? ⟨w.heap.size + 1, 0, none⟩ = some (.string y) := by
    rw [← hW4]; refine cell_old _ _ ?_ (by omega)
    rw [← hW3]; refine cell_old _ _ ?_ (by omega)
    rw [← hW2, ← z1]; exact cell_new1 _ _ _
  have p2 : W4.cell? ⟨w.heap.size + 2, 0, none⟩ = some (.string (spareOf nm)) := by
    rw [← hW4]; refine cell_old _ _ ?_ (by omega)
    rw [← hW3, ← z2]; exact cell_new1 _ _ _
  have q0 := k4 e0 hg; have q1 := k4 e1 hg; have q4 := k4 e4 hg
  have hd4 : DkAt c b st W4 := by rw [← hW4, ← hW3, ← hW2, ← hW1]; exact (((hd.alloc _).alloc _).alloc _).alloc _
  have hm4 : Mv [c, b] [c, b] w W4 := by rw [← hW4, ← hW3, ← hW2, ← hW1]; exact ((((Mv.refl _ _).alloc _).alloc _).alloc _).alloc _
  have hsp : (spareOf nm).size ≤ 9223372036854775807 := by unfold spareOf; rw [size_app']; have : (⟨#[126]⟩ : ByteArray).size = 1 := rfl; omega
  have hD : ∀ (k : Nat) (x : Fv) (d : Dk → Int × Dk), l[k]? = some x → (mendD nm y lg.size)[k]? = some d → Does c b W4 x d ∧ ∀ st : Dk, st.Ok → (d st).2.Ok := by
    intro k x d hx hd
    subst hl
    match k, hx, hd with
    | 0, hx, hd =>
      simp [mendD] at hx hd; subst hx hd
      exact ⟨⟨fun _ => by kernel_rfl, fun st W ok hk hm => mend1_any c b _ g _ st ok _ hsp W hk (mv_keep hm ⟨by omega, by omega⟩ p0) (mv_keep hm ⟨hgc, hgb⟩ q0) (mv_keep hm ⟨by omega, by omega⟩ p2) ⟨by omega, by omega⟩ ⟨hgc, hgb⟩ ⟨by omega, by omega⟩⟩, fun st ok => removeIf_ok ok _⟩
    | 1, hx, hd =>
      simp [mendD] at hx hd; subst hx hd
      exact ⟨⟨fun _ => by kernel_rfl, fun st W ok hk hm => mend2_any c b _ g _ st ok _ hsp W hk (mv_keep hm ⟨by omega, by omega⟩ p0) (mv_keep hm ⟨hgc, hgb⟩ q0) (mv_keep hm ⟨by omega, by omega⟩ p2) ⟨by omega, by omega⟩ ⟨hgc, hgb⟩ ⟨by omega, by omega⟩⟩, fun st ok => create_ok ok _⟩
    | 2, hx, hd =>
      simp [mendD] at hx hd; subst hx hd
      exact ⟨⟨fun _ => by kernel_rfl, fun st W ok hk hm => mend3_any c b _ g _ _ st ok _ hsp _ hy _ hsz W hk (mv_keep hm ⟨by omega, by omega⟩ p0) (mv_keep hm ⟨hgc, hgb⟩ q0) (mv_keep hm ⟨by omega, by omega⟩ p2) (mv_keep hm ⟨by omega, by omega⟩ p1) (mv_keep hm ⟨hgc, hgb⟩ q4) ⟨by omega, by omega⟩ ⟨hgc, hgb⟩ ⟨by omega, by omega⟩ ⟨by omega, by omega⟩⟩, fun st ok => append_ok ok _ _⟩
    | 3, hx, hd =>
      simp [mendD] at hx hd; subst hx hd
      exact ⟨⟨fun _ => by kernel_rfl, fun st W ok hk hm => mend4_any c b _ g _ st ok _ hsp W hk (mv_keep hm ⟨by omega, by omega⟩ p0) (mv_keep hm ⟨hgc, hgb⟩ q0) (mv_keep hm ⟨by omega, by omega⟩ p2) ⟨by omega, by omega⟩ ⟨hgc, hgb⟩ ⟨by omega, by omega⟩⟩, fun st ok => sync_ok ok _⟩
    | 4, hx, hd =>
      simp [mendD] at hx hd; subst hx hd
      exact ⟨⟨fun _ => by kernel_rfl, fun st W ok hk hm => mend5_any c b _ g _ st ok _ hsp _ W hk (mv_keep hm ⟨by omega, by omega⟩ p0) (mv_keep hm ⟨hgc, hgb⟩ q0) (mv_keep hm ⟨by omega, by omega⟩ p2) (mv_keep hm ⟨hgc, hgb⟩ q1) ⟨by omega, by omega⟩ ⟨hgc, hgb⟩ ⟨by omega, by omega⟩⟩, fun st ok => rename_ok ok _ _⟩
    | k + 5, hx, hd => simp [mendD] at hd
  have hrd : Reads W4 (w.heap.size + 4) 1 (some ⟨w.heap.size + 3, 0, none⟩) l.length (fvs l) := by
    rw [← hW4]
    exact reads_newV W3 (fvs l) _ _ rfl (by simp [fvs]) (by omega) (by omega)
  have q := first_any c b st hok l (mendD nm y lg.size) (by rw [hll]; rfl) (some ⟨w.heap.size + 3, 0, none⟩) 5 _ W4 hd4 hrd (by omega) (fun ad e => by injection e with e; subst e; exact ⟨show w.heap.size + 3 ≠ c by omega, show w.heap.size + 3 ≠ b by omega⟩) (by omega) hD
  rw [hll] at q
  obtain ⟨r, hr⟩ : ∃ r, firstD (mendD nm y lg.size) st = r := ⟨_, rfl⟩
  rw [hr] at q ⊢
  have Q := Lib.hid q
  have HM := Lib.hid hm4
  have HW : Hid ((((w.alloc (.cells #[.pointer (some ⟨g, 0, none⟩)] 24)).alloc (.cells #[.string y] 9)).alloc (.cells #[.string (spareOf nm)] 9)).alloc (.cells (fvs l).toArray 105) = W4) := by
    show _ = _
    rw [hW1, hW2, hW3, hW4]
  have hmf := makes
  have e1' : ((w.alloc (.cells #[.pointer (some ⟨g, 0, none⟩)] 24)).alloc (.cells #[.string y] 9)).cell? ⟨g, 1, none⟩ = some (.string nm) := cell_old _ _ (cell_old _ _ e1 hg) (by simp; omega)
  clear q hr hm4 hW1 hW2 hW3 hW4 hrd hD hd4 q0 q1 q4 p0 p1 p2 k4 z1 z2 z3 z4 e0 e4 h hd hok hll
  go_enter Tryz.func41, Tryz.ntmps41
  go_wp2_with fail
  have q := Q.out
  rw [← HW.out] at q
  subst hl
  refine q.mono ?_
  rintro e w5 ⟨rfl, h5, hm5⟩
  have H5 := Lib.hid h5
  have HM5 := Lib.hid (HM.out.trans (HW.out ▸ hm5))
  clear q h5 hm5 Q HW HM
  go_wp2
  go_ret
  exact ⟨rfl, H5.out, HM5.out⟩
set_option maxHeartbeats 2000000 in
/-- The two steps of Commit. -/
theorem steps_any (g c b p x : Nat) (nm y : ByteArray) (st : Dk) (hok : st.Ok) (w : World) (hd : DkAt c b st w) (e0 : w.cell? ⟨g, 0, none⟩ = some (.pointer (some ⟨c, 0, none⟩))) (e1 : w.cell? ⟨g, 1, none⟩ = some (.string nm)) (ep : w.cell? ⟨p, 0, none⟩ = some (.pointer (some ⟨g, 0, none⟩)))
    (ex : w.cell? ⟨x, 0, none⟩ = some (.string y)) (hg : g ≠ c ∧ g ≠ b) (hp : p ≠ c ∧ p ≠ b) (hx : x ≠ c ∧ x ≠ b) (hn : nm.size ≤ 9223372036854775807) (hy : y.size ≤ 1000000000) (s : Nat) (hs : s = w.heap.size) :
    Calls Tryz.prog 46 #[.slice (some ⟨s, 0, none⟩) 2 2] (w.alloc (.cells #[.func (.func 47) #[] #[.pointer (some ⟨p, 0, none⟩), .pointer (some ⟨x, 0, none⟩)], .func (.func 48) #[] #[.pointer (some ⟨p, 0, none⟩)]] 105))
      fun e w' => e = .returned (.int .i64 (firstD (commitD nm y) st).1) ∧ DkAt c b (firstD (commitD nm y) st).2 w' ∧ Mv [c, b] [c, b] w w' := by
  subst hs
  have hc := hd.lt
  have hb := hd.ltb
  obtain ⟨l, hl⟩ : ∃ l : List Fv, l = [⟨47, #[.pointer (some ⟨p, 0, none⟩), .pointer (some ⟨x, 0, none⟩)]⟩, ⟨48, #[.pointer (some ⟨p, 0, none⟩)]⟩] := ⟨_, rfl⟩
  have hll : l.length = 2 := by rw [hl]; rfl
  obtain ⟨W, hW⟩ : ∃ W, w.alloc (.cells (fvs l).toArray 105) = W := ⟨_, rfl⟩
  have z : W.heap.size = w.heap.size + 1 := by rw [← hW]; simp
  have k4 : ∀ {k : Nat} {i : Nat} {v : Value}, w.cell? ⟨k, i, none⟩ = some v → W.cell? ⟨k, i, none⟩ = some v := by
    intro k i v h1
    rw [← hW]
    refine cell_old _ _ h1 ?_
    rcases Nat.lt_or_ge k w.heap.size with hlt | hge
    · exact hlt
    · unfold World.cell? at h1
      rw [Array.getElem?_eq_none hge] at h1
      simp at h1
  have hd4 : DkAt c b st W := by rw [← hW]; exact hd.alloc _
  have hm4 : Mv [c, b] [c, b] w W := by rw [← hW]; exact (Mv.refl _ _).alloc _
  have hD : ∀ (k : Nat) (v : Fv) (d : Dk → Int × Dk), l[k]? = some v → (commitD nm y)[k]? = some d → Does c b W v d ∧ ∀ st : Dk, st.Ok → (d st).2.Ok := by
    intro k v d hv hd
    subst hl
    match k, hv, hd with
    | 0, hv, hd =>
      simp [commitD] at hv hd; subst hv hd
      exact ⟨⟨fun _ => by kernel_rfl, fun st W' ok hk hm => commit2_any c b _ g _ st ok _ hn _ hy W' hk (mv_keep hm hp (k4 ep)) (mv_keep hm hg (k4 e0)) (mv_keep hm hg (k4 e1)) (mv_keep hm hx (k4 ex)) hp hg hx⟩, fun st ok => append_ok ok _ _⟩
    | 1, hv, hd =>
      simp [commitD] at hv hd; subst hv hd
      exact ⟨⟨fun _ => by kernel_rfl, fun st W' ok hk hm => commit3_any c b _ g st ok _ hn W' hk (mv_keep hm hp (k4 ep)) (mv_keep hm hg (k4 e0)) (mv_keep hm hg (k4 e1)) hp hg⟩, fun st ok => sync_ok ok _⟩
    | k + 2, hv, hd => simp [commitD] at hd
  have hrd : Reads W (w.heap.size + 1) 1 (some ⟨w.heap.size, 0, none⟩) l.length (fvs l) := by
    rw [← hW]
    exact reads_newV w (fvs l) _ _ rfl (by simp [fvs]) rfl (by omega)
  have q := first_any c b st hok l (commitD nm y) (by rw [hll]; rfl) (some ⟨w.heap.size, 0, none⟩) 2 _ W hd4 hrd (by omega) (fun ad e => by injection e with e; subst e; exact ⟨show w.heap.size ≠ c by omega, show w.heap.size ≠ b by omega⟩) (by omega) hD
  rw [hll] at q
  subst hl
  rw [← hW] at q
  refine q.mono ?_
  rintro e w5 ⟨rfl, h5, hm5⟩
  exact ⟨rfl, h5, hm4.trans (by rw [← hW]; exact hm5)⟩
end Go.Proofs.YtfmbadinfhpihaaGreat
