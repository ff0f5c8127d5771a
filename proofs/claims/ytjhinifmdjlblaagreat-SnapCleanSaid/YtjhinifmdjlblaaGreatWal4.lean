/-
  Package wal: steps one behind the other; a file removed if it is there; what is right of a disk stays right.
  Conditions: disks that the call has made.
-/
import Derived.Test.YtjhinifmdjlblaaGreatWal3
import Derived.Test.YtjhinifmdjlblaaGreatShelf
namespace Go.Proofs.YtjhinifmdjlblaaGreat
open Go.RowKit Go.Maps
set_option maxRecDepth 100000

theorem Dk.Ok.with_ {st : Dk} (h : st.Ok) {fs : DataW Unit} (hg : GoodF fs) (hf : Maps.size fs ≤ 1000000) (ht : totF fs ≤ 1000000000) : (st.with fs).Ok := ⟨hg, h.ops0, h.ops1, h.left0, h.left1, hf, ht⟩
theorem doD_ok {st : Dk} (h : st.Ok) (W : Dk → Int) (K : Dk → Dk) (hK : ∀ x : Dk, x.Ok → W x = 0 → (K x).Ok) : (doD st W K).2.Ok := by
  unfold doD
  have h1 := opD_ok h
  split
  · split
    · exact h1
    · split
      · rename_i hw
        exact hK _ h1 hw
      · exact h1
  · exact h
theorem lacks_zero {x : Dk} {s : ByteArray} (hw : lacksD x s = 0) : hasS x.fs s = true := by
  unfold lacksD at hw
  by_cases hh : hasS x.fs s = true
  · exact hh
  · rw [if_neg hh] at hw; omega
theorem create_ok {st : Dk} (h : st.Ok) (s : ByteArray) : (createD st s).2.Ok := doD_ok h _ _ fun x hx hw => by
  have hg := hx.good
  unfold createW at hw
  by_cases hv : validB s = true
  · rw [if_pos hv] at hw
    by_cases hh : hasS x.fs s = true
    · rw [if_pos hh] at hw; omega
    · rw [if_neg hh] at hw
      by_cases h40 : 40 ≤ Maps.size x.fs
      · rw [if_pos h40] at hw; omega
      · have hs := sizeF_put hg s ⟨#[]⟩ 0
        rw [if_neg hh] at hs
        have ht := totF_put_le hg s ⟨#[]⟩ 0
        have e : (⟨#[]⟩ : ByteArray).size = 0 := rfl
        have := hx.tot
        exact hx.with_ (hg.put s _ (Int.le_refl _) (Int.le_refl _)) (by omega) (by omega)
  · rw [if_neg hv] at hw; omega
theorem sync_ok {st : Dk} (h : st.Ok) (s : ByteArray) : (syncD st s).2.Ok := doD_ok h _ _ fun x hx hw => by
  have hg := hx.good
  have hh := lacks_zero hw
  have hs := sizeF_put hg s (fileAt x.fs s).1 ((fileAt x.fs s).1.size : Nat)
  rw [if_pos hh] at hs
  have t1 := totF_del hg s
  have t2 := totF_put hg s (fileAt x.fs s).1 ((fileAt x.fs s).1.size : Nat)
  have := hx.tot
  have := hx.few
  exact hx.with_ (hg.put s _ (by omega) (Int.le_refl _)) (by omega) (by omega)
theorem remove_ok {st : Dk} (h : st.Ok) (s : ByteArray) : (removeD st s).2.Ok := doD_ok h _ _ fun x hx hw => by
  have hg := hx.good
  have hs := sizeF_del hg s
  have t1 := totF_del_le hg s
  have := hx.tot
  have := hx.few
  exact hx.with_ (hg.del s) (by omega) (by omega)
theorem rename_ok {st : Dk} (h : st.Ok) (s t : ByteArray) : (renameD st s t).2.Ok := doD_ok h _ _ fun x hx hw => by
  have hg := hx.good
  have hh : hasS x.fs s = true := by
    unfold renameW at hw
    by_cases hh : hasS x.fs s = true
    · exact hh
    · rw [if_neg hh] at hw; omega
  obtain ⟨_, a0, a1⟩ := fileAt_form hg s
  have hs := sizeF_del hg s
  rw [if_pos hh] at hs
  have t1 := totF_del hg s
  have t2 := totF_put_le (hg.del s) t (fileAt x.fs s).1 (fileAt x.fs s).2
  have s2 := sizeF_put (hg.del s) t (fileAt x.fs s).1 (fileAt x.fs s).2
  have := hx.tot
  have := hx.few
  refine hx.with_ ((hg.del s).put t _ a0 a1) ?_ (by omega)
  rw [s2]
  split <;> omega
theorem size_app' (a b : ByteArray) : (a ++ b).size = a.size + b.size := ByteArray.size_append
theorem append_ok {st : Dk} (h : st.Ok) (s x : ByteArray) : (appendD st s x).2.Ok := by
  have h2 := opD_ok h
  unfold appendD
  by_cases hon : st.on = true
  · rw [if_pos hon]
    show (if appendW (opD st).1 s x = 0 then putsD (opD st).1 s x else (opD st).1).Ok
    obtain ⟨y, hy⟩ : ∃ y, (opD st).1 = y := ⟨_, rfl⟩
    rw [hy] at h2 ⊢
    by_cases hw : appendW y s x = 0
    · rw [if_pos hw]
      unfold appendW at hw
      have hg := h2.good
      by_cases hh : hasS y.fs s = true
      · rw [if_pos hh] at hw
        by_cases hf : 400000 < totF y.fs + x.size
        · rw [if_pos hf] at hw; omega
        · obtain ⟨_, a0, a1⟩ := fileAt_form hg s
          have hsz := size_app' (fileAt y.fs s).1 x
          have hs := sizeF_put hg s ((fileAt y.fs s).1 ++ x) (fileAt y.fs s).2
          rw [if_pos hh] at hs
          have t1 := totF_del hg s
          have t2 := totF_put hg s ((fileAt y.fs s).1 ++ x) (fileAt y.fs s).2
          have := h2.few
          exact h2.with_ (hg.put s _ a0 (by omega)) (by omega) (by omega)
      · rw [if_neg hh] at hw; omega
    · rw [if_neg hw]
      exact h2
  · rw [if_neg hon]
    exact h
/-- A cell that no step touches. -/
theorem mv_keep {c b k i : Nat} {w w' : World} {v : Value} (hm : Mv [c, b] [c, b] w w') (hk : k ≠ c ∧ k ≠ b) (h : w.cell? ⟨k, i, none⟩ = some v) : w'.cell? ⟨k, i, none⟩ = some v := by
  have hlt : k < w.heap.size := by
    rcases Nat.lt_or_ge k w.heap.size with hlt | hge
    · exact hlt
    · unfold World.cell? at h
      rw [Array.getElem?_eq_none hge] at h
      simp at h
  exact (World.cell?_of_block (a := ⟨k, i, none⟩) (hm.block k hlt (by simp [hk.1, hk.2]))).trans h

/-! ### steps one behind the other -/
/-- A function value: its number, what it has in hand. -/
structure Fv where
  f : Nat
  U : Array Value
def fvs (l : List Fv) : List Value := l.map fun x => .func (.func x.f) #[] x.U
def firstD : List (Dk → Int × Dk) → Dk → Int × Dk
  | [], st => (0, st)
  | f :: fs, st => if (f st).1 = 0 then firstD fs (f st).2 else f st
/-- A function value does a step on the disk, wherever nothing else has turned. -/
def Does (c b : Nat) (w : World) (x : Fv) (d : Dk → Int × Dk) : Prop :=
  (∀ W, (callFunc x.f x.U).run Tryz.prog W = .ok (.enter x.f x.U) W) ∧
  ∀ (st : Dk) (W : World), st.Ok → DkAt c b st W → Mv [c, b] [c, b] w W → Calls Tryz.prog x.f x.U W fun e W' => e = .returned (.int .i64 (d st).1) ∧ DkAt c b (d st).2 W' ∧ Mv [c, b] [c, b] W W'
theorem firstD_drop {D : List (Dk → Int × Dk)} {k : Nat} {d : Dk → Int × Dk} (h : D[k]? = some d) (st : Dk) : firstD (D.drop k) st = if (d st).1 = 0 then firstD (D.drop (k + 1)) (d st).2 else d st := by
  rw [drop_cons h]
  rfl
set_option maxHeartbeats 2000000 in
theorem first_any (c b : Nat) (st : Dk) (hok : st.Ok) (l : List Fv) (D : List (Dk → Int × Dk)) (hlen : l.length = D.length) (A : Option Addr) (cap B : Nat) (w : World) (h : DkAt c b st w) (hr : Reads w B 1 A l.length (fvs l)) (hB : B ≤ w.heap.size)
    (hA : ∀ ad, A = some ad → ad.block ≠ c ∧ ad.block ≠ b) (hl : l.length ≤ 1000) (hD : ∀ (k : Nat) (x : Fv) (d : Dk → Int × Dk), l[k]? = some x → D[k]? = some d → Does c b w x d ∧ ∀ st : Dk, st.Ok → (d st).2.Ok) :
    Calls Tryz.prog 68 #[.slice A l.length cap] w fun e w' => e = .returned (.int .i64 (firstD D st).1) ∧ DkAt c b (firstD D st).2 w' ∧ Mv [c, b] [c, b] w w' := by
  obtain ⟨n, hn⟩ : ∃ n, l.length = n := ⟨_, rfl⟩
  obtain ⟨R, hR⟩ : ∃ R, firstD D st = R := ⟨_, rfl⟩
  rw [hn] at hr hl hlen ⊢
  rw [hR]
  have HR := Lib.hid hR
  have HRD := Lib.hid hr
  have HD := Lib.hid hD
  have HLEN := Lib.hid hlen
  have HN := Lib.hid hn
  have HK := Lib.hid h
  have HOK := Lib.hid hok
  have HA := Lib.hid hA
  clear hR hr hD hlen hn h hok hA
  go_enter Tryz.func68, Tryz.ntmps68
  go_wp2
  go_loopw [8] (fun i wr => ∃ (k : Nat), k ≤ n ∧ i = .int .i64 k ∧ Hid (∃ st' : Dk, st'.Ok ∧ DkAt c b st' wr ∧ firstD (D.drop k) st' = R) ∧ Hid (Mv [c, b] [c, b] w wr)) (fun i _ => n - (intOf i).toNat)
  case atStart => exact ⟨0, Nat.zero_le _, rfl, ⟨st, HOK.out, HK.out, HR.out⟩, Mv.refl _ _⟩
  case round =>
    obtain ⟨k, hk, rfl, HS, HM⟩ := hrel
    obtain ⟨st', hok', hdk, hres⟩ := HS.out
    have HDK := Lib.hid hdk
    have HOK' := Lib.hid hok'
    have HRES := Lib.hid hres
    clear hdk hok' hres HS
    by_cases hlt : k < n
    · obtain ⟨ad, u, rfl, hab, hu, hcell⟩ := HRD.out.at_ hlt
      obtain ⟨x, hx, rfl⟩ : ∃ x, l[k]? = some x ∧ Value.func (.func x.f) #[] x.U = u := by simpa [fvs] using hu
      obtain ⟨d, hd⟩ : ∃ d, D[k]? = some d := ⟨_, List.getElem?_eq_getElem (by have := HLEN.out; omega)⟩
      obtain ⟨hdo, hdok⟩ := HD.out k x d hx hd
      have hbk := HA.out ad rfl
      have hc' : wr.cell? (ad.add k) = some (.func (.func x.f) #[] x.U) := by
        rw [World.cell?_of_block (HM.out.block (ad.add k).block (by rw [block_of_add]; omega) (by rw [block_of_add]; simp [hbk.1, hbk.2]))]
        exact hcell
      have hstep := firstD_drop hd st'
      obtain ⟨xf, xU⟩ := x
      have hen := hdo.1
      have q := hdo.2 st' wr HOK'.out HDK.out HM.out
      have hok2 := hdok st' HOK'.out
      obtain ⟨r, hr⟩ : ∃ r, d st' = r := ⟨_, rfl⟩
      rw [hr] at q hok2 hstep
      have hres := HRES.out
      rw [hstep] at hres
      have HOK2 := Lib.hid hok2
      clear hr hstep hu hx hd hdo hdok hcell hok2 hbk
      obtain ⟨r1, r2⟩ := r
      by_cases h0 : r1 = 0
      · rw [if_pos h0] at hres
        have hb0 : (r1 != 0) = false := by rw [h0]; rfl
        have HRES2 := Lib.hid hres
        clear hres h0
        go_wp2_with fail
        refine q.mono ?_
        rintro e w2 ⟨rfl, h2, hm2⟩
        have HS2 : Hid (∃ st' : Dk, st'.Ok ∧ DkAt c b st' w2 ∧ firstD (D.drop (k + 1)) st' = R) := ⟨_, HOK2.out, h2, HRES2.out⟩
        have HM2 := Lib.hid (HM.out.trans hm2)
        clear q h2 hm2 hc' hen
        go_wp2
        go_roundw
        case rel => exact ⟨k + 1, hlt, by go_num, HS2.out, HM2.out⟩
        case measure => simp [intOf]; omega
      · rw [if_neg h0] at hres
        have hb0 : (r1 != 0) = true := by simpa using h0
        subst hres
        clear h0
        go_wp2_with fail
        refine q.mono ?_
        rintro e w2 ⟨rfl, h2, hm2⟩
        have H2 := Lib.hid h2
        have HM2 := Lib.hid (HM.out.trans hm2)
        clear q h2 hm2 hc' hen
        go_wp2
        go_ret
        exact ⟨rfl, H2.out, HM2.out⟩
    · have hres := HRES.out
      rw [List.drop_eq_nil_of_le (by have := HLEN.out; omega)] at hres
      subst hres
      go_wp2
      go_ret
      exact ⟨rfl, HDK.out, HM.out⟩

/-! ### a file removed, if it is there -/
def removeIf (s : ByteArray) (st : Dk) : Int × Dk := if hasS st.fs s = true then removeD st s else (0, st)
theorem removeIf_ok {st : Dk} (h : st.Ok) (s : ByteArray) : (removeIf s st).2.Ok := by
  unfold removeIf
  split
  · exact remove_ok h s
  · exact h
set_option maxHeartbeats 1000000 in
theorem files_own (c b : Nat) (st : Dk) (hok : st.Ok) (w : World) (h : DkAt c b st w) :
    Calls Tryz.prog 13 #[.pointer (some ⟨c, 0, none⟩)] w fun e w' => ∃ v, e = .returned v ∧ w'.ownsRow w.heap.size 9 1 v (lstS st.fs).length (strs (lstS st.fs)) ∧ Below w.heap.size w w' := by
  have hS := sorted_any b _ st.fs w h.2.1 hok.few
  have hlen := lstS_len hok.good.keys
  have c4 := h.cell4
  have HS := Lib.hid hS
  have HL := Lib.hid hlen
  clear hS h hlen hok
  go_enter Tryz.func13, Tryz.ntmps13
  go_wp2_with fail
  refine (keys_any _ _).mono ?_
  rintro e w1 ⟨rfl, rfl⟩
  go_wp2_with fail
  refine HS.out.mono ?_
  rintro e w2 ⟨v, ss, rfl, hp, hown, _, hb2⟩
  have hsort : ss.mergeSort (fun x y => decide (x ≤ y)) = (strKeys st.fs).mergeSort leB := mergeSort_of_perm hp
  rw [hsort] at hown
  have hln : ss.length = (lstS st.fs).length := by rw [hp.length_eq]; unfold lstS; rw [List.length_map, List.length_mergeSort]
  rw [encs, hln] at hown
  have hown2 : w2.ownsRow (w.heap.size + 1) 9 1 v (lstS st.fs).length (strs (lstS st.fs)) := hown
  have HO : Hid (w2.ownsRow w.heap.size 9 1 v (lstS st.fs).length (strs (lstS st.fs))) := by
    refine ⟨hown2.1, ?_⟩
    rcases hown2.2 with h | ⟨g, cap, cur, h1, h2, h3⟩
    · exact .inl h
    · exact .inr ⟨g, cap, cur, h1, by omega, h3⟩
  have hbl : Below w.heap.size w w2 := ((Below.refl w.heap.size w).alloc (Nat.le_refl _) _).trans (hb2.mono (by omega))
  have HBL := Lib.hid hbl
  clear hbl hown hown2 hb2 hp hsort hln HS HL
  go_wp2
  go_ret
  exact ⟨v, rfl, HO.out, HBL.out⟩
theorem contains_any (ss : List ByteArray) (v : Value) (n B : Nat) (s : ByteArray) (w : World) (hn : ss.length = n) (ho : w.ownsRow B 9 1 v n (strs ss)) (hb : n ≤ 1000000) :
    Calls Tryz.prog 96 #[v, .string s] w fun e w' => e = .returned (.bool (Lib.containsS ss s)) ∧ w = w' := by
  obtain ⟨A, cap, rfl, _⟩ := own_form ho
  rcases Nat.eq_zero_or_pos n with h0 | h0
  · subst h0
    have : ss = [] := List.eq_nil_of_length_eq_zero hn
    subst this
    refine (Tryz.slices_Contains_string_empty A cap s w).mono ?_
    rintro e w' ⟨rfl, rfl⟩
    exact ⟨rfl, rfl⟩
  · obtain ⟨g, cap', hv, _, hlt⟩ := ho.form h0
    injection hv with hA _ _
    subst hA
    have hc := ho.cells (g := g) rfl
    refine (Tryz.slices_Contains_string g 0 n cap ss s w (by omega) (by omega) (fun j hj => ?_)).mono ?_
    · have := hc j (.string ss[j]) (by simp [strs, hj])
      rw [List.getD_eq_getElem?_getD, List.getElem?_eq_getElem hj]
      unfold Addr.add at this
      split at this
      · rename_i h1; subst h1; exact this
      · exact this
    · rintro e w' ⟨rfl, rfl⟩
      rw [List.take_of_length_le (by omega)]
      exact ⟨rfl, rfl⟩
theorem contains_lst {st : Dk} (h : st.Ok) (s : ByteArray) : Lib.containsS (lstS st.fs) s = hasS st.fs s := by
  rw [Bool.eq_iff_iff, Lib.containsS_iff]
  exact mem_lstS h.good.keys s
set_option maxHeartbeats 1000000 in
theorem wremove_any (c b : Nat) (st : Dk) (hok : st.Ok) (s : ByteArray) (hs : s.size ≤ 9223372036854775807) (w : World) (h : DkAt c b st w) :
    Calls Tryz.prog 53 #[.pointer (some ⟨c, 0, none⟩), .string s] w fun e w' => e = .returned (.int .i64 (removeIf s st).1) ∧ DkAt c b (removeIf s st).2 w' ∧ Mv [c, b] [c, b] w w' := by
  have q := files_own c b st hok w h
  have hlen := lstS_len hok.good.keys
  have hfew := hok.few
  have hcl := contains_lst hok s
  have hll : (lstS st.fs).length ≤ 1000000 := by omega
  have HLL := Lib.hid hll
  have HCL := Lib.hid hcl
  have q3 := fun W (h' : DkAt c b st W) => Lib.hid (remove_any c b st hok s hs W h')
  have HK := Lib.hid h
  have hlc := h.lt
  have hlb := h.ltb
  unfold removeIf
  obtain ⟨x, hx⟩ : ∃ x, hasS st.fs s = x := ⟨_, rfl⟩
  rw [hx] at HCL ⊢
  obtain ⟨r, hr⟩ : ∃ r, removeD st s = r := ⟨_, rfl⟩
  rw [hr] at q3 ⊢
  clear hlen hfew hcl hll h hx hr hok
  cases x
  · rw [if_neg (show ¬ (false = true) by decide)]
    go_enter Tryz.func53, Tryz.ntmps53
    go_wp2_with fail
    refine q.mono ?_
    rintro e w1 ⟨v, rfl, hown, hb1⟩
    have q2 := contains_any (lstS st.fs) v _ _ s w1 rfl hown HLL.out
    rw [HCL.out] at q2
    have HK1 := Lib.hid (HK.out.below hb1 hlc hlb)
    have HM1 := Lib.hid ((Mv.refl [c, b] w).then_below hb1)
    obtain ⟨A, cap, rfl, _⟩ := own_form hown
    obtain ⟨n, hn⟩ : ∃ n, (lstS st.fs).length = n := ⟨_, rfl⟩
    rw [hn] at q2 ⊢
    clear hown hb1 q hn
    go_wp2_with fail
    refine q2.mono ?_
    rintro e w2 ⟨rfl, rfl⟩
    go_wp2
    go_ret
    exact ⟨rfl, HK1.out, HM1.out⟩
  · rw [if_pos rfl]
    go_enter Tryz.func53, Tryz.ntmps53
    go_wp2_with fail
    refine q.mono ?_
    rintro e w1 ⟨v, rfl, hown, hb1⟩
    have q2 := contains_any (lstS st.fs) v _ _ s w1 rfl hown HLL.out
    rw [HCL.out] at q2
    have HK1 := Lib.hid (HK.out.below hb1 hlc hlb)
    have HM1 := Lib.hid ((Mv.refl [c, b] w).then_below hb1)
    obtain ⟨A, cap, rfl, _⟩ := own_form hown
    obtain ⟨n, hn⟩ : ∃ n, (lstS st.fs).length = n := ⟨_, rfl⟩
    rw [hn] at q2 ⊢
    clear hown hb1 q hn
    have q4 := q3 w1 HK1.out
    go_wp2_with fail
    refine q2.mono ?_
    rintro e w2 ⟨rfl, rfl⟩
    go_wp2_with fail
    refine q4.out.mono ?_
    rintro e w2 ⟨rfl, h2, hm2⟩
    have HK2 := Lib.hid h2
    have HM2 := Lib.hid (HM1.out.trans hm2)
    clear h2 hm2
    go_wp2
    go_ret
    exact ⟨rfl, HK2.out, HM2.out⟩
end Go.Proofs.YtjhinifmdjlblaaGreat
