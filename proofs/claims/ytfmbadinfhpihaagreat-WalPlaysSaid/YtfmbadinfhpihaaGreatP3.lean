/-
  The walk of WalPlays: whatever is done in whatever order, the program's disk and log answer as the document's.
  Conditions: steps and a name in memory.
-/
import Derived.Test.YtfmbadinfhpihaaGreatP2
import Derived.Test.YtfmbadinfhpihaaGreatPLight
import Derived.Deep.DeepCutAuto
import Derived.Deep.CutBlock
import Derived.Deep.DrawnRows
set_option linter.unusedVariables false
set_option linter.unusedSimpArgs false
namespace Go.Proofs.YtfmbadinfhpihaaGreat
open Go.RowKit Go.Maps
attribute [local go_sem ↓] Go.wp_at_zero Go.wp_at_succ

/-- The two logs are the same, and not too great. -/
def LoOk (k : Nat) : Option (Lg × Lg) → Prop
  | none => True
  | some p => p.1 = p.2 ∧ p.1.recs.length ≤ 400000 + 10000 * k ∧ p.1.groups ≤ 400000 + k ∧ p.1.size ≤ 400000 * (k + 1)
theorem LoOk.mono {k k' : Nat} {lo : Option (Lg × Lg)} (h : LoOk k lo) (hk : k ≤ k') : LoOk k' lo := by
  cases lo with
  | none => trivial
  | some p =>
    obtain ⟨h1, h2, h3, h4⟩ := h
    exact ⟨h1, by omega, by omega, by omega⟩
theorem few_good (b : List UInt8) : 8 * (Wal.goodOf b).recs.length ≤ b.length ∧ 8 * (Wal.goodOf b).groups ≤ b.length ∧ (Wal.goodOf b).size ≤ b.length := by
  have h1 := Wal.good_few (Sum.scan b).1 [] 0 Wal.none_
  have h2 := Sum.scan_framed b
  have h3 := Sum.frames_length (Sum.scan b).1
  have h4 := Wal.goodOf_size b
  have h5 : (Sum.frames (Sum.scan b).1).length ≤ b.length := by rw [h2, List.length_take]; exact Nat.min_le_right _ _
  have e1 : Wal.none_.recs.length = 0 := rfl
  have e2 : Wal.none_.groups = 0 := rfl
  unfold Wal.goodOf at *
  simp only [List.length_nil] at h1
  omega
theorem openD_form (nm : ByteArray) (st : Dk) : (∃ s, openD nm st = (0, s, some (Wal.goodOf (readD st nm).1.data.toList))) ∨ (∃ e s, openD nm st = (e, s, none) ∧ e ≠ 0) := by
  unfold openD
  generalize (if (readD st nm).2 = 7 then createD st nm else ((readD st nm).2, st)) = C
  generalize firstD (mendD nm (readD st nm).1 (Wal.goodOf (readD st nm).1.data.toList).size) C.2 = Q
  by_cases h1 : C.1 = 0
  · rw [if_pos h1]
    by_cases h2 : (Wal.goodOf (readD st nm).1.data.toList).size < (readD st nm).1.size
    · rw [if_pos h2]
      by_cases h3 : Q.1 = 0
      · rw [if_pos h3]; exact .inl ⟨_, rfl⟩
      · rw [if_neg h3]; exact .inr ⟨_, _, rfl, h3⟩
    · rw [if_neg h2]; exact .inl ⟨_, rfl⟩
  · rw [if_neg h1]; exact .inr ⟨_, _, rfl, h1⟩
/-- What Open finds is not too great. -/
theorem open_few {st : Dk} {r : D5} (ha : Agree5 st r) (nm : ByteArray) {gs : Wal.Gs} (h : (openD nm st).2.2 = some gs) : gs.recs.length ≤ 400000 ∧ gs.groups ≤ 400000 ∧ gs.size ≤ 400000 := by
  have hb : (readD st nm).1.size ≤ 400000 := by
    unfold readD
    split
    · have := fileAt_le ha.fs.good nm; have := ha.tot; show (fileAt st.fs nm).1.size ≤ _; omega
    · decide
  have h1 := few_good (readD st nm).1.data.toList
  rw [len_data] at h1
  have : gs = Wal.goodOf (readD st nm).1.data.toList := by
    rcases openD_form nm st with ⟨s, e⟩ | ⟨e, s, e', _⟩
    · rw [e] at h; injection h with h; exact h.symm
    · rw [e'] at h; cases h
  rw [this]
  omega
theorem open_err (nm : ByteArray) (st : Dk) : ((openD nm st).2.2 = none → (openD nm st).1 ≠ 0) ∧ (∀ gs, (openD nm st).2.2 = some gs → (openD nm st).1 = 0) := by
  rcases openD_form nm st with ⟨s, e⟩ | ⟨e, s, e', h⟩
  · rw [e]; exact ⟨(fun h => by cases h), fun _ _ => rfl⟩
  · rw [e']; exact ⟨fun _ => h, fun _ h => by cases h⟩
theorem lo_open {st : Dk} {r : D5} (ha : Agree5 st r) (nm : ByteArray) (k : Nat) : LoOk k ((openD nm st).2.2.map fun gs => (lgOf gs false, lgOf gs false)) := by
  cases h : (openD nm st).2.2 with
  | none => trivial
  | some gs =>
    obtain ⟨h1, h2, h3⟩ := open_few ha nm h
    refine ⟨rfl, ?_, ?_, ?_⟩
    · show (lgOf gs false).recs.length ≤ _
      rw [show (lgOf gs false).recs.length = gs.recs.length from texts_len _]
      omega
    · show gs.groups ≤ _; omega
    · show gs.size ≤ _; omega
theorem lo_commit {k : Nat} {lg : Lg} {nm : ByteArray} {st : Dk} {ss : List ByteArray} (h : LoOk k (some (lg, lg))) (hl : ss.length ≤ 9000) (ht : total ss ≤ 9000) : LoOk (k + 1) (some ((commitR nm lg st ss).2.1, (commitR nm lg st ss).2.1)) := by
  obtain ⟨_, h2, h3, h4⟩ := h
  dsimp only at h2 h3 h4
  have hg := group_len ss
  refine ⟨rfl, ?_⟩
  show (commitR nm lg st ss).2.1.recs.length ≤ _ ∧ (commitR nm lg st ss).2.1.groups ≤ _ ∧ (commitR nm lg st ss).2.1.size ≤ _
  unfold commitR
  split
  · dsimp only; exact ⟨by omega, by omega, by omega⟩
  · split
    · dsimp only; exact ⟨by omega, by omega, by omega⟩
    · split
      · dsimp only; exact ⟨by omega, by omega, by omega⟩
      · split
        · dsimp only
          rw [List.length_append]
          exact ⟨by omega, by omega, by omega⟩
        · dsimp only; exact ⟨by omega, by omega, by omega⟩
theorem Wl.mono {B c b x gb n n' : Nat} {Z : List Nat} {nm : ByteArray} {vx vy : Value} {st : Dk} {r : D5} {lo : Option (Lg × Lg)} {w : World} (h : Wl B c b x gb Z nm vx vy st r lo n w) (hn : n ≤ n') : Wl B c b x gb Z nm vx vy st r lo n' w := by
  obtain ⟨S, T, Y, tv, wv, L, h⟩ := h
  exact ⟨S, T, Y, tv, wv, L, ⟨h.dk, h.d5, h.lg, h.bk, h.sp, h.zt, ⟨Nat.le_trans h.ok.1 hn, h.ok.2⟩, h.up, h.sz⟩⟩
theorem wl_start {B c b x : Nat} {S T Y : List Nat} {nm : ByteArray} {v v5 : Value} {st : Dk} {r : D5} {o : Option Wal.Gs} {w : World} (hB : B ≤ w.heap.size) (hd : DkAt c b st w) (h5 : D5At x S r w) (h1 : LogsBack c nm w v T o) (h2 : Logs5Back x nm w v5 Y o)
    (hds : ∀ k ∈ [c, b], k ∉ S) (hdt : ∀ k ∈ [c, b], k ∉ T) (hdy : ∀ k ∈ [c, b], k ∉ Y) (hst : ∀ k ∈ S, k ∉ T) (hsy : ∀ k ∈ S, k ∉ Y) (hty : ∀ k ∈ T, k ∉ Y) (u1 : ∀ k ∈ [c, b], B ≤ k) (u2 : ∀ k ∈ S, B ≤ k) (u3 : ∀ k ∈ T, B ≤ k) (u4 : ∀ k ∈ Y, B ≤ k) :
    Wl B c b x w.heap.size [] nm v v5 st r (o.map fun gs => (lgOf gs false, lgOf gs false)) 0 (w.alloc (.cells (Bk.bkCells (.slice none 0 0) (.slice none 0 0)) 86)) := by
  have hlt : (∀ k ∈ T, k < w.heap.size) ∧ (∀ k ∈ Y, k < w.heap.size) := by
    cases o with
    | none => obtain ⟨_, rfl⟩ := h1; obtain ⟨_, rfl⟩ := h2; exact ⟨fun k hk => absurd hk List.not_mem_nil, fun k hk => absurd hk List.not_mem_nil⟩
    | some gs => obtain ⟨g, _, g1⟩ := h1; obtain ⟨y, _, g2⟩ := h2; exact ⟨g1.there, g2.there⟩
  have hdl : ∀ k ∈ [c, b], k < w.heap.size := fun k hk => by
    simp only [List.mem_cons, List.not_mem_nil, or_false] at hk
    rcases hk with rfl | rfl
    · exact hd.lt
    · exact hd.ltb
  have hK : ∀ k ∈ Bk.bkBlocks w.heap.size (.slice none 0 0) (.slice none 0 0) [], w.heap.size ≤ k := fun k hk => by
    have : k = w.heap.size := by simpa [Bk.bkBlocks, Bk.rowBlocks, Value.ownBlock] using hk
    omega
  have hb : Below w.heap.size w (w.alloc (.cells (Bk.bkCells (.slice none 0 0) (.slice none 0 0)) 86)) := (Below.refl _ _).alloc (Nat.le_refl _) _
  refine ⟨S, T, Y, _, _, [], ⟨hd.alloc _, h5.alloc _, ?_, Bk.bk_new w, ?_, fun k hk => absurd hk List.not_mem_nil, ⟨Nat.le_refl _, by simp⟩, ⟨u1, u2, u3, u4, fun k hk => Nat.le_trans hB (hK k hk)⟩, Nat.le_trans hB hb.size⟩⟩
  · cases o with
    | none => exact ⟨h1.1, h2.1, h1.2, h2.2⟩
    | some gs =>
      obtain ⟨g, e1, g1⟩ := h1
      obtain ⟨y, e2, g2⟩ := h2
      exact ⟨g, y, e1, e2, g1.below hb, g2.below hb⟩
  · have hn : ∀ {O : List Nat}, (∀ k ∈ O, k < w.heap.size) → ∀ k ∈ O, k ∉ Bk.bkBlocks w.heap.size (.slice none 0 0) (.slice none 0 0) [] := fun hO => off_symm (off_new hK hO)
    exact ⟨hds, hdt, hdy, hn hdl, (fun _ _ => List.not_mem_nil), hst, hsy, hn h5.there, (fun _ _ => List.not_mem_nil), hty, hn hlt.1, (fun _ _ => List.not_mem_nil), hn hlt.2, (fun _ _ => List.not_mem_nil), (fun _ _ => List.not_mem_nil)⟩
theorem Logs5Back.keep5 {x : Nat} {nm : ByteArray} {v : Value} {T : List Nat} {o : Option Wal.Gs} {w w' : World} (h : Logs5Back x nm w v T o) (hk : ∀ k ∈ T, w'.heap[k]? = w.heap[k]?) : Logs5Back x nm w' v T o := by
  cases o with
  | none => exact h
  | some gs => obtain ⟨g, h1, h2⟩ := h; exact ⟨g, h1, h2.keep hk⟩
theorem Kept.ofDrew {B q : Nat} {Z : List Nat} {w w' : World} (h : Kept B Z (w.drewN q) w') : Kept B Z w w' := ⟨fun k hk => h.1 k hk, (drewN_below (Below.refl _ _) q).trans h.2⟩
theorem Kept.toDrew {B : Nat} {Z : List Nat} {w w' : World} (h : Kept B Z w w') (q : Nat) : Kept B Z w (w'.drewN q) := ⟨fun k hk => h.1 k hk, drewN_below h.2 q⟩
theorem wts_mem {l : List POp} {z : POp} (h : z ∈ l) : z.wt ≤ wts l := by
  induction l with
  | nil => cases h
  | cons y l ih =>
    unfold wts at ih ⊢
    rw [List.map_cons, List.sum_cons]
    rcases List.mem_cons.1 h with rfl | h1
    · omega
    · have := ih h1; omega

set_option maxHeartbeats 40000000 in
set_option maxRecDepth 100000 in
theorem wplays_main (first : List DOp) (nm : ByteArray) (l : List POp) (A A' : Option Addr) (c0 c1 : Nat) (w : World)
    (hr : OpsAt w w.heap.size A first) (hrl : first.length ≤ 9223372036854775807) (hrf : ∀ x ∈ first, x.Fits) (hnz : nm.size ≤ 9223372036854775807)
    (ho : POpsAt w w.heap.size A' l) (hol : l.length ≤ 9223372036854775807) (hof : ∀ x ∈ l, x.Fits) :
    Calls Tryz.prog 8 #[.slice A first.length c0, .string nm, .slice A' l.length c1] w fun e w' => e = .returned (.bool true) ∧ Below w.heap.size w w' := by
  have L1 := light5_any first A c0 w hr hrl hrf
  obtain ⟨m, hm⟩ : ∃ m, first.length = m := ⟨_, rfl⟩
  obtain ⟨n, hn⟩ : ∃ n, l.length = n := ⟨_, rfl⟩
  have L2 : Hid (∀ W, Below w.heap.size w W → Calls Tryz.prog 26 #[.slice A' n c1] W fun e w' => LightSays6 l e ∧ Below W.heap.size W w') := fun W hW => by
    have h := light6_any l A' c1 W (by have h := ho.below hW; exact ⟨fun h0 => by obtain ⟨ad, e, hb, hc⟩ := h.row h0; exact ⟨ad, e, Nat.lt_of_lt_of_le hb hW.size, hc⟩, fun x hx => ⟨(h.ins x hx).rt.more hW.size, (h.ins x hx).rn.more hW.size⟩⟩) hol hof
    rw [hn] at h
    exact h
  rw [hm] at L1
  rw [hm, hn]
  rw [hm] at hrl
  rw [hn] at hol
  have HM := Lib.hid hm; have HN := Lib.hid hn; have HL1 := Lib.hid L1
  have HR := Lib.hid hr; have HO := Lib.hid ho; have HRF := Lib.hid hrf; have HF := Lib.hid hof
  clear hm hn L1 hr ho hrf hof
  go_enter Tryz.func8, Tryz.ntmps8
  go_wp2_with fail
  refine HL1.out.mono ?_
  rintro e w1 ⟨⟨b1, rfl, hs1⟩, hb1⟩
  have HB1 := Lib.hid hb1
  have HS1 := Lib.hid hs1
  clear hb1 hs1 HL1
  cases b1
  · skip
    --<
    go_wp2_with fail
    refine (alive6_any _).mono ?_
    rintro e w9 ⟨rfl, hb9⟩
    have HB9 := Lib.hid hb9
    clear hb9
    go_wp2
    go_ret
    exact ⟨rfl, HB1.out.trans (HB9.out.mono HB1.out.size)⟩
    -->
  have HSH := Lib.hid (HS1.out rfl)
  clear HS1
  go_wp2_with fail
  refine (L2.out w1 HB1.out).mono ?_
  rintro e w2 ⟨⟨b2, rfl, hs2⟩, hb2⟩
  have HB2 : Hid (Below w.heap.size w w2) := HB1.out.trans (hb2.mono HB1.out.size)
  have HS2 := Lib.hid hs2
  clear hb2 hs2 L2 HB1
  cases b2
  · skip
    --<
    go_wp2_with fail
    refine (alive6_any _).mono ?_
    rintro e w9 ⟨rfl, hb9⟩
    have HB9 := Lib.hid hb9
    clear hb9
    go_wp2
    go_ret
    exact ⟨rfl, HB2.out.trans (HB9.out.mono HB2.out.size)⟩
    -->
  obtain ⟨h60, hwt⟩ := HS2.out rfl
  have h60' : n ≤ 60 := by have := HN.out; omega
  have HWT := Lib.hid hwt
  clear HS2 h60 hwt
  by_cases hnm : 60 < nm.size
  · have t1 : decide ((nm.size : Int) > 60) = true := decide_eq_true (by omega)
    --<
    go_wp2_with fail
    refine (alive6_any _).mono ?_
    rintro e w9 ⟨rfl, hb9⟩
    have HB9 := Lib.hid hb9
    clear hb9
    go_wp2
    go_ret
    exact ⟨rfl, HB2.out.trans (HB9.out.mono HB2.out.size)⟩
    -->
  have t1 : decide ((nm.size : Int) > 60) = false := decide_eq_false (by omega)
  have hnm' : nm.size ≤ 1000000 := by omega
  go_wp2_with fail
  refine (new_any w2).mono ?_
  rintro e w3 ⟨c, b, rfl, hd3, hc3, hb3', hb3⟩
  have HB3 : Hid (Below w.heap.size w w3) := HB2.out.trans (hb3.mono HB2.out.size)
  have HD3 := Lib.hid hd3
  have hzz := HB2.out.size
  have HCB : Hid (∀ k ∈ [c, b], w.heap.size ≤ k) := fun k hk => by
    simp only [List.mem_cons, List.not_mem_nil, or_false] at hk
    rcases hk with rfl | rfl <;> omega
  clear hd3 hb3 t1 hc3 hb3'
  go_wp2_with fail
  refine (new5_any w3).mono ?_
  rintro e w4 ⟨x, rfl, hx4, hk4, hb4⟩
  have HB4 : Hid (Below w.heap.size w w4) := HB3.out.trans (hb4.mono HB3.out.size)
  have hcl := HD3.out.lt
  have hbl := HD3.out.ltb
  have HD4 := Lib.hid (HD3.out.below hb4 hcl hbl)
  have HK4 := Lib.hid hk4
  have HOF4 : Hid (∀ k ∈ [c, b], k ∉ [x]) := fun k hk hh => by
    obtain rfl := List.mem_singleton.1 hh
    simp only [List.mem_cons, List.not_mem_nil, or_false] at hk
    rcases hk with rfl | rfl <;> omega
  have HXB : Hid (∀ k ∈ [x], w.heap.size ≤ k) := fun k hk => by obtain rfl := List.mem_singleton.1 hk; have := HB3.out.size; omega
  clear hk4 hb4 HB3 HD3 hcl hbl hx4 hzz
  go_upto_block 0 with (fail)
  go_cut [9] (fun _ wx => ∃ (st : Dk) (r : D5) (S : List Nat), Hid (DkAt c b st wx) ∧ Hid (D5At x S r wx) ∧ Hid (Agree5 st r) ∧ Hid (∀ k ∈ [c, b], k ∉ S) ∧ Hid (∀ k ∈ S, w.heap.size ≤ k) ∧ Hid (Below w.heap.size w wx))
  case first =>
    as_aux_lemma =>
    go_wp2
    go_loopw [9] (fun i wr => ∃ (k : Nat) (st : Dk) (r : D5) (S : List Nat), k ≤ m ∧ i = .int .i64 k ∧ Hid (DkAt c b st wr) ∧ Hid (D5At x S r wr) ∧ Hid (Agree5 st r) ∧ Hid (∀ k ∈ [c, b], k ∉ S) ∧ Hid (∀ k ∈ S, w.heap.size ≤ k) ∧ Hid (Below w.heap.size w wr)) (fun i _ => m - (intOf i).toNat)
    case atStart => exact ⟨0, _, _, _, Nat.zero_le _, rfl, HD4.out, HK4.out, agree5_new, HOF4.out, HXB.out, HB4.out⟩
    case round =>
      clear HD4 HK4 HOF4 HXB HB4
      obtain ⟨k, st, r, S, hk, rfl, HD, HK, HAG, HOFF, HSB, HB⟩ := hrel
      by_cases hlt : k < m
      · skip
        --<
        obtain ⟨ad, z, rfl, hab, hok, hc0⟩ := HR.out.at_ (show k < first.length by rw [HM.out]; exact hlt)
        have hfx := HRF.out z (List.mem_of_getElem? hok)
        have hsx := HSH.out z (List.mem_of_getElem? hok)
        have hc : ∀ j v, z.cells[j]? = some v → wr.cell? ((ad.add (k * 5)).add j) = some v := fun j v hj => (HB.out.cell (by rw [block_of_add, block_of_add]; exact hab)).trans (hc0 j v hj)
        clear hok hc0
        obtain ⟨kd, num, za, zb, la, ln, lc⟩ := z
        dsimp only at hsx
        obtain ⟨f1, f2, f3, f4⟩ := hfx
        dsimp only at f1 f2 f3 f4
        have d0 : wr.cell? (ad.add (k * 5)) = some (.int .i64 kd) := by have h := hc 0 _ rfl; rw [show (ad.add (k * 5)).add 0 = ad.add (k * 5) from by rw [add_of_add]; rfl] at h; exact h
        have d1 : wr.cell? ⟨(ad.add (k * 5)).block, (ad.add (k * 5)).off + 1, none⟩ = some (.int .i64 num) := hc 1 _ rfl
        have d2 : wr.cell? ⟨(ad.add (k * 5)).block, (ad.add (k * 5)).off + 2, none⟩ = some (.string za) := hc 2 _ rfl
        have d3 : wr.cell? ⟨(ad.add (k * 5)).block, (ad.add (k * 5)).off + 3, none⟩ = some (.string zb) := hc 3 _ rfl
        have d4 : wr.cell? ⟨(ad.add (k * 5)).block, (ad.add (k * 5)).off + 4, none⟩ = some (.slice la ln lc) := hc 4 _ rfl
        have b1 : (0 : Int) ≤ (k : Int) := by omega
        have b2 : (k : Int) < (m : Int) := by omega
        obtain ⟨p, hp⟩ : ∃ p, wr.heap.size = p := ⟨_, rfl⟩
        obtain ⟨W5, HW5⟩ : ∃ W, Hid (wr.alloc (.cells #[.int .i64 kd, .int .i64 num, .string za, .string zb, .slice la ln lc] 62) = W) := ⟨_, rfl⟩
        have hk5 : W5.heap[p]? = some (.cells #[.int .i64 kd, .int .i64 num, .string za, .string zb, .slice la ln lc] 62 (0, 0)) := by rw [← HW5.out, ← hp]; exact heap_alloc_new _ _
        have hz5 : p < W5.heap.size := by rw [← HW5.out, ← hp]; simp
        have HB5 : Hid (Below w.heap.size w W5) := by show Below _ _ _; rw [← HW5.out]; exact HB.out.alloc HB.out.size _
        have HD5 : Hid (DkAt c b st W5) := by show DkAt _ _ _ _; rw [← HW5.out]; exact HD.out.alloc _
        have HK5 : Hid (D5At x S r W5) := by show D5At _ _ _ _; rw [← HW5.out]; exact HK.out.alloc _
        have HPC : Hid (p ≠ c ∧ p ≠ b ∧ p ∉ S) := ⟨fun e => by have := HD.out.lt; omega, fun e => by have := HD.out.ltb; omega, fun e => by have := HK.out.there p e; omega⟩
        have hWo := HW5.out
        have q0 : W5.cell? ⟨p, 0, none⟩ = some (.int .i64 kd) := by rw [Lib.cell_of_heap hk5]; rfl
        have q2 : W5.cell? ⟨p, 2, none⟩ = some (.string za) := by rw [Lib.cell_of_heap hk5]; rfl
        have q3 : W5.cell? ⟨p, 3, none⟩ = some (.string zb) := by rw [Lib.cell_of_heap hk5]; rfl
        have HK9 := Lib.hid hk5
        clear hc hk5
        go_upto_block 2 with (fail)
        clear hWo d0 d1 d2 d3 d4
        by_cases h1 : kd = 1
        · subst h1
          have CD := Lib.hid (create_any c b st HAG.out.ok za f2 W5 HD5.out)
          clear q0
          go_wp2_with fail
          refine CD.out.mono ?_
          rintro e w6 ⟨rfl, hd6, hm6⟩
          have HD6 := Lib.hid hd6
          have hk6 := (hm6.block p hz5 (by simp; exact ⟨HPC.out.1, HPC.out.2.1⟩)).trans HK9.out
          have HK6 : Hid (D5At x S r w6) := HK5.out.keep (fun q hq => hm6.block q (HK5.out.there q hq) (fun h => HOFF.out q h hq))
          have HB6 : Hid (Below w.heap.size w w6) := HB5.out.trans (hm6.below HCB.out HB5.out.size)
          have e2 : w6.cell? ⟨p, 2, none⟩ = some (.string za) := by rw [Lib.cell_of_heap hk6]; rfl
          have e3 : w6.cell? ⟨p, 3, none⟩ = some (.string zb) := by rw [Lib.cell_of_heap hk6]; rfl
          have C5 := Lib.hid (create5_any x S r za f2 w6 HK6.out HAG.out.ok5)
          clear hd6 hm6 hk6 CD q2 q3
          go_wp2_with fail
          refine C5.out.mono ?_
          rintro e w7 ⟨S7, rfl, hk7, hm7⟩
          have HK7 := Lib.hid hk7
          have HD7 : Hid (DkAt c b (createD st za).2 w7) := HD6.out.mv hm7 (HOFF.out c (by simp)) (HOFF.out b (by simp))
          have HB7 : Hid (Below w.heap.size w w7) := HB6.out.trans (hm7.below HSB.out HB6.out.size)
          have HO7 : Hid (∀ k ∈ [c, b], k ∉ S7) := off_symm (off_moved hm7 (fun _ h => h) (off_symm HOFF.out) (fun k hk => by
            simp only [List.mem_cons, List.not_mem_nil, or_false] at hk
            rcases hk with rfl | rfl
            · exact HD6.out.lt
            · exact HD6.out.ltb))
          have HS7 : Hid (∀ k ∈ S7, w.heap.size ≤ k) := up_moved hm7 (fun _ h => h) HSB.out HB6.out.size
          have HA7 := Lib.hid ((HAG.out.create za).2)
          clear hk7 hm7 C5
          go_wp2
          go_roundw
          case rel => exact ⟨k + 1, _, _, S7, hlt, by go_num, HD7.out, HK7.out, HA7.out, HO7.out, HS7.out, HB7.out⟩
          case measure => simp [intOf]; omega
        · have h1b : (kd == 1) = false := beq_false_of_ne h1
          by_cases h2 : kd = 2
          · subst h2
            have CD := Lib.hid (append_any c b st HAG.out.ok za zb f2 f3 W5 HD5.out)
            clear q0
            go_wp2_with fail
            refine CD.out.mono ?_
            rintro e w6 ⟨rfl, hd6, hm6⟩
            have HD6 := Lib.hid hd6
            have hk6 := (hm6.block p hz5 (by simp; exact ⟨HPC.out.1, HPC.out.2.1⟩)).trans HK9.out
            have HK6 : Hid (D5At x S r w6) := HK5.out.keep (fun q hq => hm6.block q (HK5.out.there q hq) (fun h => HOFF.out q h hq))
            have HB6 : Hid (Below w.heap.size w w6) := HB5.out.trans (hm6.below HCB.out HB5.out.size)
            have e2 : w6.cell? ⟨p, 2, none⟩ = some (.string za) := by rw [Lib.cell_of_heap hk6]; rfl
            have e3 : w6.cell? ⟨p, 3, none⟩ = some (.string zb) := by rw [Lib.cell_of_heap hk6]; rfl
            have C5 := Lib.hid (append5_any x S r za zb (by omega) w6 HK6.out HAG.out.ok5)
            clear hd6 hm6 hk6 CD q2 q3
            go_wp2_with fail
            refine C5.out.mono ?_
            rintro e w7 ⟨S7, rfl, hk7, hm7⟩
            have HK7 := Lib.hid hk7
            have HD7 : Hid (DkAt c b (appendD st za zb).2 w7) := HD6.out.mv hm7 (HOFF.out c (by simp)) (HOFF.out b (by simp))
            have HB7 : Hid (Below w.heap.size w w7) := HB6.out.trans (hm7.below HSB.out HB6.out.size)
            have HO7 : Hid (∀ k ∈ [c, b], k ∉ S7) := off_symm (off_moved hm7 (fun _ h => h) (off_symm HOFF.out) (fun k hk => by
              simp only [List.mem_cons, List.not_mem_nil, or_false] at hk
              rcases hk with rfl | rfl
              · exact HD6.out.lt
              · exact HD6.out.ltb))
            have HS7 : Hid (∀ k ∈ S7, w.heap.size ≤ k) := up_moved hm7 (fun _ h => h) HSB.out HB6.out.size
            have HA7 := Lib.hid ((HAG.out.append za zb).2)
            clear hk7 hm7 C5
            go_wp2
            go_roundw
            case rel => exact ⟨k + 1, _, _, S7, hlt, by go_num, HD7.out, HK7.out, HA7.out, HO7.out, HS7.out, HB7.out⟩
            case measure => simp [intOf]; omega
          · have h2b : (kd == 2) = false := beq_false_of_ne h2
            go_wp2
            go_roundw
            case rel => exact ⟨k + 1, _, _, S, hlt, by go_num, HD5.out, HK5.out, HAG.out, HOFF.out, HSB.out, HB5.out⟩
            case measure => simp [intOf]; omega
        -->
      · obtain rfl : k = m := by omega
        go_wp2
        go_meet
        exact ⟨_, _, _, HD.out, HK.out, HAG.out, HOFF.out, HSB.out, HB.out⟩
  case rest =>
  obtain ⟨st, r, S, HD, HK, HAG, HOFF, HSB, HB⟩ := hcut
  obtain ⟨wr, hwr⟩ : ∃ X, X = wc := ⟨_, rfl⟩
  subst hwr
  clear HD4 HK4 HOF4 HXB HB4
  --<<
  as_aux_lemma =>
  have OD := open_any c b nm st HAG.out.ok wr HD.out hnm' (by have h1 := fileAt_le HAG.out.fs.good nm; have h2 := HAG.out.tot; omega)
  obtain ⟨h1a, h2a, h3a⟩ := HAG.out.opens nm
  obtain ⟨ev, hev⟩ : ∃ e, (openD nm st).1 = e := ⟨_, rfl⟩
  obtain ⟨st2, hst2⟩ : ∃ e, (openD nm st).2.1 = e := ⟨_, rfl⟩
  obtain ⟨og, hog⟩ : ∃ e, (openD nm st).2.2 = e := ⟨_, rfl⟩
  obtain ⟨r2, hr2⟩ : ∃ e, (open5 nm r).2.1 = e := ⟨_, rfl⟩
  have hoe := open_err nm st
  have hlo := lo_open HAG.out nm 0
  rw [hev, hog] at hoe
  rw [hog] at hlo
  rw [hst2, hr2] at h2a
  rw [hev] at h1a
  rw [hog] at h3a
  have HOD : Hid (Calls Tryz.prog 10 #[.pointer (some ⟨c, 0, none⟩), .string nm] wr fun e w' => ∃ v, e = .returned (.tuple #[v, .int .i64 ev]) ∧ LogBack c wr.heap.size nm w' v og ∧ DkAt c b st2 w' ∧ Mv [c, b] [c, b] wr w') := by
    rw [← hev, ← hst2, ← hog]
    exact OD
  have HAG2 := Lib.hid h2a; have HOE := Lib.hid hoe; have HLO := Lib.hid hlo; have HE5 := Lib.hid h1a; have HG5 := Lib.hid h3a; have HR2 := Lib.hid hr2
  have HS1 := Lib.hid HAG.out
  clear OD h1a h2a h3a hev hst2 hog hr2 hoe hlo
  go_wp2_with fail
  refine HOD.out.mono ?_
  rintro e w5 ⟨v, rfl, hlb, hd5, hm5⟩
  have HB5 : Hid (Below w.heap.size w w5) := HB.out.trans (hm5.below HCB.out HB.out.size)
  have HK5 : Hid (D5At x S r w5) := HK.out.keep (fun q hq => hm5.block q (HK.out.there q hq) (fun h => HOFF.out q h hq))
  have HD5 := Lib.hid hd5
  have hwz := hm5.size
  obtain ⟨T, HT⟩ : ∃ T, Hid (LogsBack c nm w5 v T og ∧ (∀ k ∈ T, wr.heap.size ≤ k) ∧ (∀ k ∈ T, k < w5.heap.size)) := by
    cases og with
    | none => exact ⟨[], ⟨hlb, rfl⟩, fun k hk => absurd hk List.not_mem_nil, fun k hk => absurd hk List.not_mem_nil⟩
    | some gs =>
      obtain ⟨g, T, e1, g1, g2⟩ := hlb
      exact ⟨T, ⟨g, e1, g1⟩, g2, g1.there⟩
  have OL := openlog_any x S nm st r w5 HK5.out HAG.out hnm'
  rw [HE5.out, HG5.out, HR2.out] at OL
  have HOL := Lib.hid OL
  clear hlb hd5 hm5 OL HOD
  go_wp2_with fail
  refine HOL.out.mono ?_
  rintro e w6 ⟨v5, S6, rfl, hlb, hk6, hm6⟩
  have HB6 : Hid (Below w.heap.size w w6) := HB5.out.trans (hm6.below HSB.out HB5.out.size)
  have hdl : ∀ k ∈ [c, b], k < w5.heap.size := fun k hk => by
    simp only [List.mem_cons, List.not_mem_nil, or_false] at hk
    rcases hk with rfl | rfl
    · exact HD5.out.lt
    · exact HD5.out.ltb
  have hdw : ∀ k ∈ [c, b], k < wr.heap.size := fun k hk => by
    simp only [List.mem_cons, List.not_mem_nil, or_false] at hk
    rcases hk with rfl | rfl
    · exact HD.out.lt
    · exact HD.out.ltb
  have hd6 : DkAt c b st2 w6 := HD5.out.mv hm6 (HOFF.out c (by simp)) (HOFF.out b (by simp))
  have hso : ∀ k ∈ S, k ∉ T := off_symm (off_new (B := wr.heap.size) HT.out.2.1 HK.out.there)
  have hs6 : ∀ k ∈ S6, k ∉ T := off_moved hm6 (fun _ h => h) hso HT.out.2.2
  have ht6 : LogsBack c nm w6 v T og := HT.out.1.keep (fun k hk => hm6.block k (HT.out.2.2 k hk) (off_symm hso k hk))
  have hdt : ∀ k ∈ [c, b], k ∉ T := off_symm (off_new HT.out.2.1 hdw)
  have hds : ∀ k ∈ [c, b], k ∉ S6 := off_symm (off_moved hm6 (fun _ h => h) (off_symm HOFF.out) hdl)
  obtain ⟨Y, hY1, hY2, hY3⟩ : ∃ Y, Logs5Back x nm w6 v5 Y og ∧ (∀ k ∈ Y, w5.heap.size ≤ k) ∧ (∀ k ∈ S6, k ∉ Y) := by
    cases og with
    | none => exact ⟨[], ⟨hlb, rfl⟩, fun k hk => absurd hk List.not_mem_nil, fun _ _ => List.not_mem_nil⟩
    | some gs =>
      obtain ⟨y, Y, e1, g1, g2⟩ := hlb
      exact ⟨Y, ⟨y, e1, g1⟩, g2, off_symm (l5_apart g1 hk6)⟩
  have u3 : ∀ k ∈ T, w.heap.size ≤ k := fun k hk => Nat.le_trans HB.out.size (HT.out.2.1 k hk)
  have u4 : ∀ k ∈ Y, w.heap.size ≤ k := fun k hk => Nat.le_trans HB5.out.size (hY2 k hk)
  have HWI : Hid (∀ W, DkAt c b st2 W → D5At x S6 r2 W → LogsBack c nm W v T og → Logs5Back x nm W v5 Y og → w.heap.size ≤ W.heap.size → Wl w.heap.size c b x W.heap.size [] nm v v5 st2 r2 (og.map fun gs => (lgOf gs false, lgOf gs false)) 0 (W.alloc (.cells (Bk.bkCells (.slice none 0 0) (.slice none 0 0)) 86))) := fun W g1 g2 g3 g4 g5 =>
    wl_start g5 g1 g2 g3 g4 hds hdt (off_symm (off_new hY2 hdl)) hs6 hY3 (off_symm (off_new hY2 HT.out.2.2)) HCB.out (up_moved hm6 (fun _ h => h) HSB.out HB5.out.size) u3 u4
  have SM := Lib.hid (same6_any c b x S6 st2 r2 w6 hd6 hk6 HAG2.out)
  have HD6 := Lib.hid hd6; have HK6 := Lib.hid hk6; have HT6 := Lib.hid ht6; have HY6 := Lib.hid hY1
  have HT6L : Hid (∀ k ∈ T, k < w6.heap.size) := fun k hk => Nat.lt_of_lt_of_le (HT.out.2.2 k hk) hm6.size
  have HY6L : Hid (∀ k ∈ Y, k < w6.heap.size) := by
    cases og with
    | none => obtain ⟨_, rfl⟩ := hY1; exact fun k hk => absurd hk List.not_mem_nil
    | some gs => obtain ⟨y, _, g1⟩ := hY1; exact g1.there
  clear hlb hm6 hdl hdw hso hs6 hdt hds hY1 hY2 hY3 u3 u4 hd6 hk6 ht6 HOL
  have HB67 := Lib.hid HB6.out
  go_upto_region 19 with (fail)
  go_cut [103] (fun t wx => t = .bool false ∧ Hid (Below w6.heap.size w6 wx))
  case first =>
    cases og with
    | none =>
      have hev0 := HOE.out.1 rfl
      have z1 : (ev == 0) = false := beq_false_of_ne hev0
      obtain ⟨rfl, _⟩ := HT6.out
      clear hev0
      go_wp2_with fail
      refine SM.out.mono ?_
      rintro e w7 ⟨rfl, hb7⟩
      have HB7 := Lib.hid hb7
      clear hb7
      go_wp2
      go_meet
      exact ⟨rfl, HB7.out⟩
    | some gs =>
      obtain rfl := HOE.out.2 gs rfl
      obtain ⟨g0, rfl, _⟩ := HT6.out
      go_wp2_with fail
      refine SM.out.mono ?_
      rintro e w7 ⟨rfl, hb7⟩
      have HB7 := Lib.hid hb7
      clear hb7
      go_wp2
      go_meet
      exact ⟨rfl, HB7.out⟩
  case rest =>
  obtain ⟨rfl, HBX7⟩ := hcut
  obtain ⟨w7, hw7⟩ : ∃ X, X = wc := ⟨_, rfl⟩
  subst hw7
  have HB7 : Hid (Below w.heap.size w w7) := HB6.out.trans (HBX7.out.mono HB6.out.size)
  have HW7 := Lib.hid (HWI.out w7 (HD6.out.below HBX7.out HD6.out.lt HD6.out.ltb) (HK6.out.below HBX7.out) (HT6.out.keep (fun k hk => HBX7.out.block k (HT6L.out k hk))) (HY6.out.keep5 (fun k hk => HBX7.out.block k (HY6L.out k hk))) HB7.out.size)
  have HB8 : Hid (Below w.heap.size w (w7.alloc (.cells (Bk.bkCells (.slice none 0 0) (.slice none 0 0)) 86))) := HB7.out.alloc HB7.out.size _
  clear SM HWI HBX7
  as_aux_lemma =>
  go_wp2
  go_loopw [11, 12, 13, 14, 16] (fun vx ve vy vf i wr => ∃ (k : Nat) (st : Dk) (r : D5) (lo : Option (Lg × Lg)) (ev : Int), k ≤ n ∧ i = .int .i64 k ∧ ve = .int .i64 ev ∧ vf = .int .i64 ev ∧ Hid (Wl w.heap.size c b x w7.heap.size [] nm vx vy st r lo k wr) ∧ Hid (Agree5 st r) ∧ Hid (LoOk k lo) ∧ Hid (Below w.heap.size w wr)) (fun _ _ _ _ i _ => n - (intOf i).toNat)
  case atStart => exact ⟨0, _, _, _, _, Nat.zero_le _, rfl, rfl, rfl, HW7.out, HAG2.out, HLO.out, HB8.out⟩
  case round =>
    as_aux_lemma =>
    clear HW7 HAG2 HLO HB8 HB7 HD6 HK6 HT6 HY6 HT6L HY6L HB6 HT HK5 HD5 HB5 HAG HD HK HOFF HSB HB HS1 HE5 HG5 HR2 HOE
    obtain ⟨k, st, r, lo, ev, hk, rfl, rfl, rfl, HWB, HAG, HLO, HB⟩ := hrel
    obtain ⟨vx, hvx⟩ : ∃ v, v = u11 := ⟨_, rfl⟩
    obtain ⟨vy, hvy⟩ : ∃ v, v = u13 := ⟨_, rfl⟩
    subst hvx; subst hvy
    by_cases hlt : k < n
    rotate_left
    · obtain rfl : k = n := by omega
      --<
      go_wp2_with fail
      refine (alive6_any _).mono ?_
      rintro e w5 ⟨rfl, hb5⟩
      have HB5 := Lib.hid hb5
      have HAP := Lib.hid (wl_apart (HWB.out.below hb5).1)
      clear hb5
      go_wp2_with fail
      refine HAP.out.mono ?_
      rintro e w6 ⟨rfl, hb6⟩
      have HB6 := Lib.hid hb6
      clear hb6 HAP
      go_wp2
      go_ret
      exact ⟨rfl, HB.out.trans ((HB5.out.mono HB.out.size).trans HB6.out)⟩
      -->
    obtain ⟨ad, z, rfl, hab, hok, hc0, hin0⟩ := HO.out.at_ (show k < l.length by rw [HN.out]; exact hlt)
    have hfx := HF.out z (List.mem_of_getElem? hok)
    have hox := wts_mem (List.mem_of_getElem? hok)
    have hox2 := HWT.out
    have hc : ∀ j v, z.cells[j]? = some v → wr.cell? ((ad.add (k * 4)).add j) = some v := fun j v hj => (HB.out.cell (by rw [block_of_add, block_of_add]; exact hab)).trans (hc0 j v hj)
    clear hok hc0
    obtain ⟨kd, num, tt, ta, tc, nn, na, nc⟩ := z
    unfold POp.wt at hox
    dsimp only at hox
    obtain ⟨nt, hnt⟩ : ∃ n, tt.length = n := ⟨_, rfl⟩
    obtain ⟨ni, hni⟩ : ∃ n, nn.length = n := ⟨_, rfl⟩
    have f1 := hfx.lt; have f2 := hfx.ln; have f3 := hfx.vt; have f4 := hfx.vk; have f5 := hfx.vm; have f6 := hfx.vn; have g1 := hin0.rt; have g2 := hin0.rn
    dsimp only at f1 f2 f3 f4 f5 f6 g1 g2
    have d0 : wr.cell? (ad.add (k * 4)) = some (.int .i64 kd) := by have h := hc 0 _ rfl; rw [show (ad.add (k * 4)).add 0 = ad.add (k * 4) from by rw [add_of_add]; rfl] at h; exact h
    have d1 : wr.cell? ⟨(ad.add (k * 4)).block, (ad.add (k * 4)).off + 1, none⟩ = some (.int .i64 num) := hc 1 _ rfl
    have d2 : wr.cell? ⟨(ad.add (k * 4)).block, (ad.add (k * 4)).off + 2, none⟩ = some (.slice ta tt.length tc) := hc 2 _ rfl
    have d3 : wr.cell? ⟨(ad.add (k * 4)).block, (ad.add (k * 4)).off + 3, none⟩ = some (.slice na nn.length nc) := hc 3 _ rfl
    rw [hnt] at d2 f1 hox
    rw [hni] at d3 f2 hox
    have HNT := Lib.hid hnt; have HNI := Lib.hid hni
    have F3 := Lib.hid f3; have F6 := Lib.hid f6
    have G1 := Lib.hid g1; have G2 := Lib.hid g2
    have HTT : Hid (total tt ≤ 9000) := by show _ ≤ _; omega
    have hnt9 : nt ≤ 9000 := by omega
    have b1 : (0 : Int) ≤ (k : Int) := by omega
    have b2 : (k : Int) < (n : Int) := by omega
    clear hc hfx hin0 hnt hni f3 f6 g1 g2 hox hox2
    obtain ⟨p, hp⟩ : ∃ p, wr.heap.size = p := ⟨_, rfl⟩
    obtain ⟨W5, HW5⟩ : ∃ W, Hid (wr.alloc (.cells #[.int .i64 kd, .int .i64 num, .slice ta nt tc, .slice na ni nc] 88) = W) := ⟨_, rfl⟩
    have hb5 : Below wr.heap.size wr W5 := by rw [← HW5.out]; exact (Below.refl _ _).alloc (Nat.le_refl _) _
    have hk5 : W5.heap[p]? = some (.cells #[.int .i64 kd, .int .i64 num, .slice ta nt tc, .slice na ni nc] 88 (0, 0)) := by rw [← HW5.out, ← hp]; exact heap_alloc_new _ _
    have HWB5 : Hid (Wl w.heap.size c b x w7.heap.size [p] nm vx vy st r lo k W5) := by show Wl _ _ _ _ _ _ _ _ _ _ _ _ _ _; rw [← HW5.out, ← hp]; exact HWB.out.newZ _
    have HPB : Hid (w.heap.size ≤ p) := by show _ ≤ _; rw [← hp]; exact HB.out.size
    have HB5 : Hid (Below w.heap.size w W5) := HB.out.trans (hb5.mono HB.out.size)
    have HKP : Hid (∀ W, Kept w.heap.size [p] W5 W → W.heap[p]? = some (.cells #[.int .i64 kd, .int .i64 num, .slice ta nt tc, .slice na ni nc] 88 (0, 0))) := fun W hW => (hW.1 p (List.mem_singleton.2 rfl)).trans hk5
    have q0 : W5.cell? ⟨p, 0, none⟩ = some (.int .i64 kd) := by rw [Lib.cell_of_heap hk5]; rfl
    have q1 : W5.cell? ⟨p, 1, none⟩ = some (.int .i64 num) := by rw [Lib.cell_of_heap hk5]; rfl
    have q2 : W5.cell? ⟨p, 2, none⟩ = some (.slice ta nt tc) := by rw [Lib.cell_of_heap hk5]; rfl
    have q3 : W5.cell? ⟨p, 3, none⟩ = some (.slice na ni nc) := by rw [Lib.cell_of_heap hk5]; rfl
    have hWo := HW5.out
    clear hk5 hb5
    go_upto_block 5 with (fail)
    clear hWo d0 d1 d2 d3 HWB
    go_cut [11, 12, 13, 14] (fun vx ve vy vf wx => ∃ (st' : Dk) (r' : D5) (lo' : Option (Lg × Lg)) (ev' : Int), ve = .int .i64 ev' ∧ vf = .int .i64 ev' ∧ Hid (Wl w.heap.size c b x w7.heap.size [] nm vx vy st' r' lo' k wx) ∧ Hid (Agree5 st' r') ∧ Hid (LoOk (k + 1) lo') ∧ Hid (Below w.heap.size w wx))
    case first =>
      by_cases h2 : kd = 2
      · skip
        --<
        as_aux_lemma =>
        subst h2
        have CF := Lib.hid (fun q => wl_fuse (w := W5.drewN q) ((HWB5.out.below (drewN_below (Below.refl _ _) q)).1) num)
        clear q0 q2 q3
        go_wp2
        refine wp_region_held_drew (S := fun X => X.cell? ⟨p, 1, none⟩ = some (.int .i64 num)) (by kernel_rfl) q1 (fun hHeld => ?_)
        refine wpAnyH_take (i := 0) (v := ?_) rfl (by kernel_rfl) (by kernel_rfl) (by kernel_rfl) (fun _ _ _ h => h) (Or.inl ⟨by rfl, ?_⟩) (by assumption) ?_
        rotate_left
        · intro X hSw; (try dsimp only at hSw); (try simp only [List.getElem_toArray, List.getElem_cons_succ, List.getElem_cons_zero]); first | (go_simp; done) | (go_simp; with_reducible rfl)
        try simp only [Act.put, List.setIfInBounds_toArray, List.set_cons_zero, List.set_cons_succ, List.getElem_toArray, List.getElem_cons_succ, List.getElem_cons_zero]
        refine wpAnyH_take (i := 1) (v := ?_) rfl (by kernel_rfl) (by kernel_rfl) (by kernel_rfl) (fun _ _ _ h => h) (Or.inl ⟨by rfl, ?_⟩) (by assumption) ?_
        rotate_left
        · intro X hSw; (try dsimp only at hSw); (try simp only [List.getElem_toArray, List.getElem_cons_succ, List.getElem_cons_zero]); first | (go_simp; done) | (go_simp; with_reducible rfl)
        try simp only [Act.put, List.setIfInBounds_toArray, List.set_cons_zero, List.set_cons_succ, List.getElem_toArray, List.getElem_cons_succ, List.getElem_cons_zero]
        refine wpAnyH_take (i := 2) (v := ?_) rfl (by kernel_rfl) (by kernel_rfl) (by kernel_rfl) (fun _ _ _ h => h) (Or.inl ⟨by rfl, ?_⟩) (by assumption) ?_
        rotate_left
        · intro X hSw; (try dsimp only at hSw); (try simp only [List.getElem_toArray, List.getElem_cons_succ, List.getElem_cons_zero]); first | (go_simp; done) | (go_simp; with_reducible rfl)
        try simp only [Act.put, List.setIfInBounds_toArray, List.set_cons_zero, List.set_cons_succ, List.getElem_toArray, List.getElem_cons_succ, List.getElem_cons_zero]
        refine wpAnyH_take (i := 3) (v := ?_) rfl (by kernel_rfl) (by kernel_rfl) (by kernel_rfl) (fun _ _ _ h => h) (Or.inl ⟨by rfl, ?_⟩) (by assumption) ?_
        rotate_left
        · intro X hSw; (try dsimp only at hSw); (try simp only [List.getElem_toArray, List.getElem_cons_succ, List.getElem_cons_zero]); first | (go_simp; done) | (go_simp; with_reducible rfl)
        try simp only [Act.put, List.setIfInBounds_toArray, List.set_cons_zero, List.set_cons_succ, List.getElem_toArray, List.getElem_cons_succ, List.getElem_cons_zero]
        refine wpAnyH_take (i := 4) (v := ?_) rfl (by kernel_rfl) (by kernel_rfl) (by kernel_rfl) (fun _ _ _ h => h) (Or.inl ⟨by rfl, ?_⟩) (by assumption) ?_
        rotate_left
        · intro X hSw; (try dsimp only at hSw); (try simp only [List.getElem_toArray, List.getElem_cons_succ, List.getElem_cons_zero]); first | (go_simp; done) | (go_simp; with_reducible rfl)
        try simp only [Act.put, List.setIfInBounds_toArray, List.set_cons_zero, List.set_cons_succ, List.getElem_toArray, List.getElem_cons_succ, List.getElem_cons_zero]
        refine wpAnyH_ready (rs := [5]) (by kernel_rfl) (by simp) (AllReadyH.cons rfl (fun K hK => ?_) AllReadyH.nil)
        try simp only [List.getElem_toArray, List.getElem_cons_succ, List.getElem_cons_zero]
        go_simp
        refine (CF.out 1).mono ?_
        rintro e w6 ⟨rfl, hw6, hk6⟩
        have hk6 := hk6.ofDrew
        have HW6 := Lib.hid hw6
        have HK6 := Lib.hid hk6
        have hp6 := HKP.out w6 hk6
        have q6 : w6.cell? ⟨p, 1, none⟩ = some (.int .i64 num) := by rw [Lib.cell_of_heap hp6]; rfl
        clear hw6 hk6 hp6
        refine hK.out _ _ (q6) (fun hHeld => ?_)
        clear hK K
        try simp only [Act.put, List.setIfInBounds_toArray, List.set_cons_zero, List.set_cons_succ, List.getElem_toArray, List.getElem_cons_succ, List.getElem_cons_zero]
        refine wpAnyH_done (by kernel_rfl) ?_ _
        obtain ⟨cf, _, ff, _⟩ := HW6.out.cells
        have HB6 : Hid (Below w.heap.size w w6) := HB5.out.trans HK6.out.2
        have HAX := Lib.hid (HAG.out.fuse_ (n := num) f5.1 f5.2)
        clear CF
        have HWX := Lib.hid (HW6.out.setFuse (max num (-1)))
        go_wp2
        go_meet
        exact ⟨_, _, _, _, rfl, rfl, (HWX.out.1).lessZ (fun _ h => absurd h List.not_mem_nil), HAX.out, HLO.out.mono (Nat.le_succ _), HB6.out.trans HWX.out.2.2⟩
        -->
      · have h2b : (kd == 2) = false := beq_false_of_ne h2
        by_cases h3 : kd = 3
        · skip
          --<
          as_aux_lemma =>
          subst h3
          have CC := wl_crash HWB5.out HAG.out.ok nn na nc (G2.out.below HB5.out) F6.out (by rw [HNI.out]; omega)
          rw [HNI.out] at CC
          have HCC := Lib.hid CC
          clear CC q0 q1 q2
          go_wp2_with fail
          refine HCC.out.mono ?_
          rintro e w6 ⟨rfl, hw6, hk6⟩
          have HW6 := Lib.hid hw6; have HK6 := Lib.hid hk6
          have HB6 : Hid (Below w.heap.size w w6) := HB5.out.trans hk6.2
          have hp6 := HKP.out w6 hk6
          have q6 : w6.cell? ⟨p, 3, none⟩ = some (.slice na ni nc) := by rw [Lib.cell_of_heap hp6]; rfl
          have C5 := wl_crash5 hw6 HAG.out.ok5 nn na nc (G2.out.below HB6.out) F6.out (by rw [HNI.out]; omega)
          rw [HNI.out] at C5
          have HC5 := Lib.hid C5
          clear hw6 hk6 hp6 C5 HCC q3
          go_wp2_with fail
          refine HC5.out.mono ?_
          rintro e w8 ⟨rfl, hw8, hk8⟩
          have HB8 : Hid (Below w.heap.size w w8) := HB6.out.trans hk8.2
          have HRE := Lib.hid (wl_restore hw8)
          clear hw8 hk8 HC5 q6
          go_wp2_with fail
          refine HRE.out.mono ?_
          rintro e w9 ⟨rfl, hw9, hk9⟩
          have HB9 : Hid (Below w.heap.size w w9) := HB8.out.trans hk9.2
          obtain ⟨_, c9, _, f9⟩ := hw9.cells
          obtain ⟨wA, HWA⟩ : ∃ W, Hid (w9.setCell ⟨x, 0, none⟩ (.bool true) = W) := ⟨_, rfl⟩
          obtain ⟨hwa, hka⟩ := hw9.setOn
          rw [HWA.out] at hwa hka
          have HWW := Lib.hid hwa.drop
          have HBA : Hid (Below w.heap.size w wA) := HB9.out.trans hka.2
          have HA1 := Lib.hid (HAG.out.crash nn).restore
          clear hw9 hk9 hwa hka HRE
          go_upto_region 43 with (fail)
          rw [HWA.out]
          clear c9 f9
          obtain ⟨h1a, h2a, h3a⟩ := HA1.out.opens nm
          have hlo := lo_open HA1.out nm (k + 1)
          have OD := wl_open HWW.out HA1.out.ok hnm' (by have h1 := fileAt_le HA1.out.fs.good nm; have h2 := HA1.out.tot; omega)
          obtain ⟨ev2, hev⟩ : ∃ e, (openD nm (restoreD (crashD st nn))).1 = e := ⟨_, rfl⟩
          obtain ⟨st2, hst2⟩ : ∃ e, (openD nm (restoreD (crashD st nn))).2.1 = e := ⟨_, rfl⟩
          obtain ⟨og, hog⟩ : ∃ e, (openD nm (restoreD (crashD st nn))).2.2 = e := ⟨_, rfl⟩
          obtain ⟨r2, hr2⟩ : ∃ e, (open5 nm (restore5 (crash5 r nn))).2.1 = e := ⟨_, rfl⟩
          rw [hog] at hlo
          rw [hst2, hr2] at h2a
          rw [hev] at h1a
          rw [hog] at h3a
          rw [hev, hst2, hog] at OD
          have HOD := Lib.hid OD; have HA2 := Lib.hid h2a; have HE5 := Lib.hid h1a; have HG5 := Lib.hid h3a; have HR2 := Lib.hid hr2; have HLO2 := Lib.hid hlo
          clear OD h1a h2a h3a hlo hev hst2 hog hr2
          go_wp2_with fail
          refine HOD.out.mono ?_
          rintro e wb ⟨v, T, rfl, hlb, hwb, hkb, htb⟩
          have HBb : Hid (Below w.heap.size w wb) := HBA.out.trans hkb.2
          have OL := wl_openlog hwb HA1.out hnm'
          rw [HE5.out, HG5.out, HR2.out] at OL
          have HOL := Lib.hid OL
          have HLB := Lib.hid hlb; have HTB := Lib.hid htb; have HWb := Lib.hid hwb
          have hzb : wA.heap.size ≤ wA.heap.size := Nat.le_refl _
          clear hlb hwb hkb htb OL HOD hzb
          go_wp2_with fail
          refine HOL.out.mono ?_
          rintro e wc' ⟨v5, Y, rfl, hlb5, hwc, hkc, hyc⟩
          have HBc : Hid (Below w.heap.size w wc') := HBb.out.trans hkc.2
          have HZW := HWW.out.zlt
          have hyt : ∀ k ∈ Y, k ∉ T := off_new hyc (fun k hk => HWb.out.zlt k (List.mem_append.2 (.inl hk)))
          have hyz : ∀ k ∈ Y, k ∉ [p] := off_new hyc (fun k hk => HWb.out.zlt k (List.mem_append.2 (.inr hk)))
          have htz : ∀ k ∈ T, k ∉ [p] := off_new HTB.out HZW
          have hsz := HWW.out.sz.1
          have hsz2 := HWb.out.sz.1
          have HWJ := Lib.hid ((Wl.join hwc (HLB.out.keep (fun k hk => hkc.1 k (List.mem_append.2 (.inl hk)))) hlb5 hyt hyz htz (fun k hk => hk.elim (fun h => Nat.le_trans hsz (HTB.out k h)) (fun h => Nat.le_trans hsz2 (hyc k h)))).lessZ (Z' := []) (fun _ h => absurd h List.not_mem_nil))
          clear hlb5 hwc hkc hyc hyt hyz htz HOL
          go_wp2
          go_meet
          exact ⟨_, _, _, _, rfl, rfl, HWJ.out, HA2.out, HLO2.out, HBc.out⟩
          -->
        · have h3b : (kd == 3) = false := beq_false_of_ne h3
          by_cases h4 : kd = 4
          · skip
            --<
            as_aux_lemma =>
            subst h4
            by_cases hnt0 : 0 < nt
            · obtain ⟨tad, t, hta, htab, htk, htc0⟩ := str_at G1.out (show 0 < tt.length by rw [HNT.out]; exact hnt0)
              subst hta
              have htc := (HB5.out.cell (p := tad.add 0) (by rw [block_of_add]; exact htab)).trans htc0
              rw [show tad.add 0 = tad from by simp [Addr.add]] at htc
              have htm : t.size ≤ total tt := size_le_total (List.mem_of_getElem? htk)
              have htt := HTT.out
              have hbz : t.size ≤ 9223372036854775807 := by omega
              have hbz2 : t.size ≤ 1000000000 := by omega
              have z1 : (0 : Int) < (nt : Int) := by omega
              clear htc0 htk
              have AP := Lib.hid (wl_append HWB5.out HAG.out.ok nm (t) (by omega) hbz)
              clear q0 q1 q3
              go_wp2_with fail
              refine AP.out.mono ?_
              rintro e w6 ⟨rfl, hw6, hk6⟩
              have HB6 : Hid (Below w.heap.size w w6) := HB5.out.trans hk6.2
              have AP5 := Lib.hid (wl_append5 hw6 HAG.out.ok5 nm (t) hbz2)
              have HA1 := Lib.hid (HAG.out.append nm (t)).2
              clear hw6 hk6 AP
              go_wp2_with fail
              refine AP5.out.mono ?_
              rintro e w8 ⟨rfl, hw8, hk8⟩
              have HB8 : Hid (Below w.heap.size w w8) := HB6.out.trans hk8.2
              have HWX := Lib.hid (hw8.lessZ (Z' := []) (fun _ h => absurd h List.not_mem_nil))
              clear hw8 hk8 AP5
              go_wp2
              go_meet
              exact ⟨_, _, _, _, rfl, rfl, HWX.out, HA1.out, HLO.out.mono (Nat.le_succ _), HB8.out⟩
            · obtain rfl : nt = 0 := by omega
              have hbz : (⟨#[]⟩ : ByteArray).size ≤ 9223372036854775807 := by decide
              have hbz2 : (⟨#[]⟩ : ByteArray).size ≤ 1000000000 := by decide
              have AP := Lib.hid (wl_append HWB5.out HAG.out.ok nm (⟨#[]⟩) (by omega) hbz)
              clear q0 q1 q3
              go_wp2_with fail
              refine AP.out.mono ?_
              rintro e w6 ⟨rfl, hw6, hk6⟩
              have HB6 : Hid (Below w.heap.size w w6) := HB5.out.trans hk6.2
              have AP5 := Lib.hid (wl_append5 hw6 HAG.out.ok5 nm (⟨#[]⟩) hbz2)
              have HA1 := Lib.hid (HAG.out.append nm (⟨#[]⟩)).2
              clear hw6 hk6 AP
              go_wp2_with fail
              refine AP5.out.mono ?_
              rintro e w8 ⟨rfl, hw8, hk8⟩
              have HB8 : Hid (Below w.heap.size w w8) := HB6.out.trans hk8.2
              have HWX := Lib.hid (hw8.lessZ (Z' := []) (fun _ h => absurd h List.not_mem_nil))
              clear hw8 hk8 AP5
              go_wp2
              go_meet
              exact ⟨_, _, _, _, rfl, rfl, HWX.out, HA1.out, HLO.out.mono (Nat.le_succ _), HB8.out⟩
            -->
          · have h4b : (kd == 4) = false := beq_false_of_ne h4
            by_cases h5 : kd = 5
            · skip
              --<
              as_aux_lemma =>
              subst h5
              have HWW := Lib.hid HWB5.out.drop
              clear q0 q1 q2 q3
              obtain ⟨h1a, h2a, h3a⟩ := HAG.out.opens nm
              have hlo := lo_open HAG.out nm (k + 1)
              have OD := wl_open HWW.out HAG.out.ok hnm' (by have h1 := fileAt_le HAG.out.fs.good nm; have h2 := HAG.out.tot; omega)
              obtain ⟨ev2, hev⟩ : ∃ e, (openD nm st).1 = e := ⟨_, rfl⟩
              obtain ⟨st2, hst2⟩ : ∃ e, (openD nm st).2.1 = e := ⟨_, rfl⟩
              obtain ⟨og, hog⟩ : ∃ e, (openD nm st).2.2 = e := ⟨_, rfl⟩
              obtain ⟨r2, hr2⟩ : ∃ e, (open5 nm r).2.1 = e := ⟨_, rfl⟩
              rw [hog] at hlo
              rw [hst2, hr2] at h2a
              rw [hev] at h1a
              rw [hog] at h3a
              rw [hev, hst2, hog] at OD
              have HOD := Lib.hid OD; have HA2 := Lib.hid h2a; have HE5 := Lib.hid h1a; have HG5 := Lib.hid h3a; have HR2 := Lib.hid hr2; have HLO2 := Lib.hid hlo
              clear OD h1a h2a h3a hlo hev hst2 hog hr2
              go_wp2_with fail
              refine HOD.out.mono ?_
              rintro e wb ⟨v, T, rfl, hlb, hwb, hkb, htb⟩
              have HBb : Hid (Below w.heap.size w wb) := HB5.out.trans hkb.2
              have OL := wl_openlog hwb HAG.out hnm'
              rw [HE5.out, HG5.out, HR2.out] at OL
              have HOL := Lib.hid OL
              have HLB := Lib.hid hlb; have HTB := Lib.hid htb; have HWb := Lib.hid hwb
              have hzb : W5.heap.size ≤ W5.heap.size := Nat.le_refl _
              clear hlb hwb hkb htb OL HOD hzb
              go_wp2_with fail
              refine HOL.out.mono ?_
              rintro e wc' ⟨v5, Y, rfl, hlb5, hwc, hkc, hyc⟩
              have HBc : Hid (Below w.heap.size w wc') := HBb.out.trans hkc.2
              have HZW := HWW.out.zlt
              have hyt : ∀ k ∈ Y, k ∉ T := off_new hyc (fun k hk => HWb.out.zlt k (List.mem_append.2 (.inl hk)))
              have hyz : ∀ k ∈ Y, k ∉ [p] := off_new hyc (fun k hk => HWb.out.zlt k (List.mem_append.2 (.inr hk)))
              have htz : ∀ k ∈ T, k ∉ [p] := off_new HTB.out HZW
              have hsz := HWW.out.sz.1
              have hsz2 := HWb.out.sz.1
              have HWJ := Lib.hid ((Wl.join hwc (HLB.out.keep (fun k hk => hkc.1 k (List.mem_append.2 (.inl hk)))) hlb5 hyt hyz htz (fun k hk => hk.elim (fun h => Nat.le_trans hsz (HTB.out k h)) (fun h => Nat.le_trans hsz2 (hyc k h)))).lessZ (Z' := []) (fun _ h => absurd h List.not_mem_nil))
              clear hlb5 hwc hkc hyc hyt hyz htz HOL
              go_wp2
              go_meet
              exact ⟨_, _, _, _, rfl, rfl, HWJ.out, HA2.out, HLO2.out, HBc.out⟩
              -->
            · have h5b : (kd == 5) = false := beq_false_of_ne h5
              skip
              --<
              as_aux_lemma =>
              cases lo with
              | none =>
                obtain ⟨rfl, rfl⟩ : vx = .pointer none ∧ vy = .pointer none := by
                  obtain ⟨S, T, Y, tv, wv, L, h⟩ := HWB5.out
                  exact ⟨h.lg.1, h.lg.2.1⟩
                have HWX := Lib.hid ((HWB5.out.lessZ (Z' := []) (fun _ h => absurd h List.not_mem_nil)).mono (Nat.le_succ k))
                have HLX := Lib.hid (HLO.out.mono (Nat.le_succ k))
                clear q0 q1 q2 q3
                go_wp2
                go_roundw
                case rel => exact ⟨k + 1, _, _, _, _, hlt, by go_num, rfl, rfl, HWX.out, HAG.out, HLX.out, HB5.out⟩
                case measure => simp [intOf]; omega
              | some lp =>
                obtain ⟨lg, lg5⟩ := lp
                obtain ⟨hle, hl1, hl2, hl3⟩ := HLO.out
                dsimp only at hle hl1 hl2 hl3
                subst hle
                obtain ⟨g, y, rfl, rfl⟩ := log_parts HWB5.out
                have CL := Bk.lentT_any tt ta tc W5 ((G1.out.below HB5.out).more HB5.out.size) (by rw [HNT.out]; exact hnt9)
                rw [HNT.out] at CL
                have HCL := Lib.hid CL
                clear CL q0 q1 q3
                go_wp2_with fail
                refine HCL.out.mono ?_
                rintro e w6 ⟨gm, cm, rfl, hcm, hcm2, hgm, hgm3, hrm, hb6, hcs6⟩
                have hwz := HWB5.out.moreZ hb6 hgm hgm3
                have HW6 := Lib.hid hwz
                have HB6 : Hid (Below w.heap.size w w6) := HB5.out.trans (hb6.mono HB5.out.size)
                have HRM := Lib.hid hrm
                have HGM : Hid (∃ cs t, w6.heap[gm]? = some (.cells cs t (0, 0)) ∧ nt + 1 ≤ cs.size) := by
                  obtain ⟨cs, hcs⟩ := hcs6
                  refine ⟨cs, _, hcs, ?_⟩
                  obtain ⟨ad', e', hb', hc'⟩ := hrm.2 (by omega)
                  injection e' with e'
                  subst e'
                  have h := hc' nt (.string Bk.markS) (by
                    have e : strs (tt ++ [Bk.markS]) = strs tt ++ [.string Bk.markS] := by simp [strs]
                    have el : (strs tt).length = nt := by simp [strs]; exact HNT.out
                    rw [e, List.getElem?_append_right (by omega), el, Nat.sub_self]
                    rfl)
                  rw [Bk.add_at, Lib.cell_of_heap hcs] at h
                  exact (Array.getElem?_eq_some_iff.1 h).1
                have q6 : w6.cell? ⟨p, 2, none⟩ = some (.slice ta nt tc) := (hb6.cell (show p < W5.heap.size from HWB5.out.zlt p (List.mem_singleton.2 rfl))).trans q2
                have hrd : Reads w6 w6.heap.size 1 (some ⟨gm, 0, none⟩) nt (strs tt) := by
                  refine ⟨by simp [strs]; exact HNT.out.symm ▸ rfl, fun h0 => ?_⟩
                  obtain ⟨ad', e', hb', hc'⟩ := hrm.2 (by omega)
                  refine ⟨ad', e', hb', fun j u hu => hc' j u ?_⟩
                  have e : strs (tt ++ [Bk.markS]) = strs tt ++ [.string Bk.markS] := by simp [strs]
                  rw [e, List.getElem?_append_left (List.getElem?_eq_some_iff.1 hu).1]
                  exact hu
                have hgB : w.heap.size ≤ gm := Nat.le_trans HB5.out.size hgm
                have HRR : Hid (Reads w6 w6.heap.size 1 (some ⟨gm, 0, none⟩) tt.length (strs tt)) := by show Reads _ _ _ _ _ _; rw [HNT.out]; exact hrd
                have httN := HTT.out
                have CM := fun q => wl_commit (w := w6.drewN q) (HW6.out.below (drewN_below (Below.refl _ _) q)).1 HAG.out.ok tt (some ⟨gm, 0, none⟩) cm (HRR.out.drewN q) (fun ad e => by injection e with e; subst e; simp) hnm' (by omega) (by rw [HNT.out]; omega) F3.out (by omega) (by omega) (by omega)
                have C5 := fun (W : World) (st'' : Dk) (lg' : Lg) (hW : Wl w.heap.size c b x w7.heap.size [gm, p] nm (.pointer (some ⟨g, 0, none⟩)) (.pointer (some ⟨y, 0, none⟩)) st'' r (some (lg', lg)) k W) (hB : Below w.heap.size w W) => wl_commit5 hW HAG.out tt ta tc (G1.out.below hB) (by omega) (by rw [HNT.out]; omega) (by omega) (by omega) (by omega)
                obtain ⟨h1a, h2a, h3a⟩ := HAG.out.commit nm lg tt
                have hlo := lo_commit (nm := nm) (st := st) (ss := tt) HLO.out (by rw [HNT.out]; omega) httN
                obtain ⟨ec, hec⟩ : ∃ e, (commitR nm lg st tt).1 = e := ⟨_, rfl⟩
                obtain ⟨lg2, hlg2⟩ : ∃ e, (commitR nm lg st tt).2.1 = e := ⟨_, rfl⟩
                obtain ⟨st2, hst2⟩ : ∃ e, (commitR nm lg st tt).2.2 = e := ⟨_, rfl⟩
                obtain ⟨r2, hr2⟩ : ∃ e, (commit5 nm lg r tt).2.2 = e := ⟨_, rfl⟩
                simp only [HNT.out, hec, hlg2, hst2] at CM
                rw [hec] at h1a
                rw [hlg2] at h2a hlo
                rw [hst2, hr2] at h3a
                simp only [HNT.out, h1a, h2a, hr2] at C5
                have HCM := Lib.hid CM; have HC5 := Lib.hid C5; have HA2 := Lib.hid h3a; have HL2 := Lib.hid hlo
                have HST : Hid (∀ W, Kept w.heap.size [gm, p] w6 W → Below w.heap.size w W → Calls Tryz.prog 36 #[.slice (some ⟨gm, 0, none⟩) nt cm, .slice ta nt tc] W fun e w' => e = .returned (.bool true) ∧ ∃ q, w' = W.drewN q) := fun W hW hB => by
                  have hs : w6.heap.size ≤ W.heap.size ∨ True := .inr trivial
                  have h := Bk.staysT_any tt gm cm ta tc W (by rw [HNT.out]; exact hcm) ⟨by have h := HRM.out.1; rw [HNT.out]; exact h, fun h0 => by
                    obtain ⟨ad', e', hb', hc'⟩ := HRM.out.2 (by have := HNT.out; omega)
                    injection e' with e'
                    subst e'
                    have hbl := hW.1 gm (by simp)
                    obtain ⟨hlt9, _⟩ : gm < W.heap.size ∧ True := by
                      refine ⟨?_, trivial⟩
                      have h1 : w6.heap[gm]? = some w6.heap[gm] := Array.getElem?_eq_getElem hgm3
                      rw [← hbl] at h1
                      exact (Array.getElem?_eq_some_iff.1 h1).1
                    refine ⟨_, rfl, hlt9, fun j u hu => ?_⟩
                    rw [World.cell?_of_block (w := w6) (w' := W) (by rw [block_of_add]; exact hbl)]
                    exact hc' j u hu⟩ ((G1.out.below hB).more hB.size) (by rw [HNT.out]; exact hnt9) hcm2
                  rw [HNT.out] at h
                  exact h
                have HT6 : Hid (∀ W, Kept w.heap.size [gm, p] w6 W → W.cell? ⟨p, 2, none⟩ = some (.slice ta nt tc)) := fun W hW => by
                  rw [World.cell?_of_block (w := w6) (w' := W) (hW.1 p (by simp))]
                  exact q6
                clear CM C5 h1a h2a h3a hlo hec hlg2 hst2 hr2 hrm hb6 hrd hwz hcs6 HCL q2
                go_upto_region 29 with (fail)
                go_cut [137] (fun tf wx => tf = .bool false ∧ Hid (Wl w.heap.size c b x w7.heap.size [gm, p] nm (.pointer (some ⟨g, 0, none⟩)) (.pointer (some ⟨y, 0, none⟩)) st2 r2 (some (lg2, lg2)) k wx) ∧ Hid (Below w.heap.size w wx) ∧ Hid (wx.heap[gm]? = w6.heap[gm]?))
                case first =>
                  go_wp2
                  refine wp_region_held_drew (S := fun X => X.cell? ⟨p, 2, none⟩ = some (.slice ta nt tc)) (by kernel_rfl) q6 (fun hHeld => ?_)
                  refine wpAnyH_take (i := 0) (v := ?_) rfl (by kernel_rfl) (by kernel_rfl) (by kernel_rfl) (fun _ _ _ h => h) (Or.inl ⟨by rfl, ?_⟩) (by assumption) ?_
                  rotate_left
                  · intro X hSw; (try dsimp only at hSw); (try simp only [List.getElem_toArray, List.getElem_cons_succ, List.getElem_cons_zero]); first | (go_simp; done) | (go_simp; with_reducible rfl)
                  try simp only [Act.put, List.setIfInBounds_toArray, List.set_cons_zero, List.set_cons_succ, List.getElem_toArray, List.getElem_cons_succ, List.getElem_cons_zero]
                  refine wpAnyH_take (i := 1) (v := ?_) rfl (by kernel_rfl) (by kernel_rfl) (by kernel_rfl) (fun _ _ _ h => h) (Or.inl ⟨by rfl, ?_⟩) (by assumption) ?_
                  rotate_left
                  · intro X hSw; (try dsimp only at hSw); (try simp only [List.getElem_toArray, List.getElem_cons_succ, List.getElem_cons_zero]); first | (go_simp; done) | (go_simp; with_reducible rfl)
                  try simp only [Act.put, List.setIfInBounds_toArray, List.set_cons_zero, List.set_cons_succ, List.getElem_toArray, List.getElem_cons_succ, List.getElem_cons_zero]
                  refine wpAnyH_take (i := 3) (v := ?_) rfl (by kernel_rfl) (by kernel_rfl) (by kernel_rfl) (fun _ _ _ h => h) (Or.inl ⟨by rfl, ?_⟩) (by assumption) ?_
                  rotate_left
                  · intro X hSw; (try dsimp only at hSw); (try simp only [List.getElem_toArray, List.getElem_cons_succ, List.getElem_cons_zero]); first | (go_simp; done) | (go_simp; with_reducible rfl)
                  try simp only [Act.put, List.setIfInBounds_toArray, List.set_cons_zero, List.set_cons_succ, List.getElem_toArray, List.getElem_cons_succ, List.getElem_cons_zero]
                  refine wpAnyH_take (i := 4) (v := ?_) rfl (by kernel_rfl) (by kernel_rfl) (by kernel_rfl) (fun _ _ _ h => h) (Or.inl ⟨by rfl, ?_⟩) (by assumption) ?_
                  rotate_left
                  · intro X hSw; (try dsimp only at hSw); (try simp only [List.getElem_toArray, List.getElem_cons_succ, List.getElem_cons_zero]); first | (go_simp; done) | (go_simp; with_reducible rfl)
                  try simp only [Act.put, List.setIfInBounds_toArray, List.set_cons_zero, List.set_cons_succ, List.getElem_toArray, List.getElem_cons_succ, List.getElem_cons_zero]
                  refine wpAnyH_take (i := 5) (v := ?_) rfl (by kernel_rfl) (by kernel_rfl) (by kernel_rfl) (fun _ _ _ h => h) (Or.inl ⟨by rfl, ?_⟩) (by assumption) ?_
                  rotate_left
                  · intro X hSw; (try dsimp only at hSw); (try simp only [List.getElem_toArray, List.getElem_cons_succ, List.getElem_cons_zero]); first | (go_simp; done) | (go_simp; with_reducible rfl)
                  try simp only [Act.put, List.setIfInBounds_toArray, List.set_cons_zero, List.set_cons_succ, List.getElem_toArray, List.getElem_cons_succ, List.getElem_cons_zero]
                  refine wpAnyH_ready (rs := [2]) (by kernel_rfl) (by simp) (AllReadyH.cons rfl (fun K hK => ?_) AllReadyH.nil)
                  try simp only [List.getElem_toArray, List.getElem_cons_succ, List.getElem_cons_zero]
                  go_simp
                  refine (HCM.out 1).mono ?_
                  rintro e w8 ⟨rfl, hw8, hk8⟩
                  have hk8 := hk8.ofDrew
                  have HW8 := Lib.hid hw8
                  have HK8 := Lib.hid hk8
                  have HB8 : Hid (Below w.heap.size w w8) := HB6.out.trans hk8.2
                  clear hw8 hk8
                  refine hK.out _ _ (HT6.out _ HK8.out) (fun hHeld => ?_)
                  clear hK K
                  try simp only [Act.put, List.setIfInBounds_toArray, List.set_cons_zero, List.set_cons_succ, List.getElem_toArray, List.getElem_cons_succ, List.getElem_cons_zero]
                  refine wpAnyH_ready (rs := [6]) (by kernel_rfl) (by simp) (AllReadyH.cons rfl (fun K hK => ?_) AllReadyH.nil)
                  try simp only [List.getElem_toArray, List.getElem_cons_succ, List.getElem_cons_zero]
                  go_simp
                  refine (HC5.out _ _ _ HW8.out HB8.out).mono ?_
                  rintro e w9 ⟨rfl, hw9, hk9⟩
                  have HW9 := Lib.hid hw9
                  have HK9 : Hid (Kept w.heap.size [gm, p] w6 w9) := HK8.out.trans hk9
                  have HB9 : Hid (Below w.heap.size w w9) := HB8.out.trans hk9.2
                  clear hw9 hk9
                  refine hK.out _ _ (HT6.out _ HK9.out) (fun hHeld => ?_)
                  clear hK K
                  try simp only [Act.put, List.setIfInBounds_toArray, List.set_cons_zero, List.set_cons_succ, List.getElem_toArray, List.getElem_cons_succ, List.getElem_cons_zero]
                  refine wpAnyH_take (i := 7) (v := ?_) rfl (by kernel_rfl) (by kernel_rfl) (by kernel_rfl) (fun _ _ _ h => h) (Or.inl ⟨by rfl, ?_⟩) (by assumption) ?_
                  rotate_left
                  · intro X hSw; (try dsimp only at hSw); (try simp only [List.getElem_toArray, List.getElem_cons_succ, List.getElem_cons_zero]); first | (go_simp; done) | (go_simp; with_reducible rfl)
                  try simp only [Act.put, List.setIfInBounds_toArray, List.set_cons_zero, List.set_cons_succ, List.getElem_toArray, List.getElem_cons_succ, List.getElem_cons_zero]
                  refine wpAnyH_take (i := 8) (v := ?_) rfl (by kernel_rfl) (by kernel_rfl) (by kernel_rfl) (fun _ _ _ h => h) (Or.inl ⟨by rfl, ?_⟩) (by assumption) ?_
                  rotate_left
                  · intro X hSw; (try dsimp only at hSw); (try simp only [List.getElem_toArray, List.getElem_cons_succ, List.getElem_cons_zero]); first | (go_simp; done) | (go_simp; with_reducible rfl)
                  try simp only [Act.put, List.setIfInBounds_toArray, List.set_cons_zero, List.set_cons_succ, List.getElem_toArray, List.getElem_cons_succ, List.getElem_cons_zero]
                  refine wpAnyH_take (i := 9) (v := ?_) rfl (by kernel_rfl) (by kernel_rfl) (by kernel_rfl) (fun _ _ _ h => h) (Or.inl ⟨by rfl, ?_⟩) (by assumption) ?_
                  rotate_left
                  · intro X hSw; (try dsimp only at hSw); (try simp only [List.getElem_toArray, List.getElem_cons_succ, List.getElem_cons_zero]); first | (go_simp; done) | (go_simp; with_reducible rfl)
                  try simp only [Act.put, List.setIfInBounds_toArray, List.set_cons_zero, List.set_cons_succ, List.getElem_toArray, List.getElem_cons_succ, List.getElem_cons_zero]
                  refine wpAnyH_take (i := 10) (v := ?_) rfl (by kernel_rfl) (by kernel_rfl) (by kernel_rfl) (fun _ _ _ h => h) (Or.inl ⟨by rfl, ?_⟩) (by assumption) ?_
                  rotate_left
                  · intro X hSw; (try dsimp only at hSw); (try simp only [List.getElem_toArray, List.getElem_cons_succ, List.getElem_cons_zero]); first | (go_simp; done) | (go_simp; with_reducible rfl)
                  try simp only [Act.put, List.setIfInBounds_toArray, List.set_cons_zero, List.set_cons_succ, List.getElem_toArray, List.getElem_cons_succ, List.getElem_cons_zero]
                  refine wpAnyH_take (i := 11) (v := ?_) rfl (by kernel_rfl) (by kernel_rfl) (by kernel_rfl) (fun _ _ _ h => h) (Or.inl ⟨by rfl, ?_⟩) (by assumption) ?_
                  rotate_left
                  · intro X hSw; (try dsimp only at hSw); (try simp only [List.getElem_toArray, List.getElem_cons_succ, List.getElem_cons_zero]); first | (go_simp; done) | (go_simp; with_reducible rfl)
                  try simp only [Act.put, List.setIfInBounds_toArray, List.set_cons_zero, List.set_cons_succ, List.getElem_toArray, List.getElem_cons_succ, List.getElem_cons_zero]
                  refine wpAnyH_ready (rs := [12]) (by kernel_rfl) (by simp) (AllReadyH.cons rfl (fun K hK => ?_) AllReadyH.nil)
                  try simp only [List.getElem_toArray, List.getElem_cons_succ, List.getElem_cons_zero]
                  go_simp
                  refine (HST.out _ HK9.out HB9.out).mono ?_
                  rintro e wA ⟨rfl, qq, rfl⟩
                  refine hK.out _ _ (HT6.out _ (HK9.out.toDrew qq)) (fun hHeld => ?_)
                  clear hK K
                  try simp only [Act.put, List.setIfInBounds_toArray, List.set_cons_zero, List.set_cons_succ, List.getElem_toArray, List.getElem_cons_succ, List.getElem_cons_zero]
                  refine wpAnyH_take (i := 13) (v := ?_) rfl (by kernel_rfl) (by kernel_rfl) (by kernel_rfl) (fun _ _ _ h => h) (Or.inl ⟨by rfl, ?_⟩) (by assumption) ?_
                  rotate_left
                  · intro X hSw; (try dsimp only at hSw); (try simp only [List.getElem_toArray, List.getElem_cons_succ, List.getElem_cons_zero]); first | (go_simp; done) | (go_simp; with_reducible rfl)
                  try simp only [Act.put, List.setIfInBounds_toArray, List.set_cons_zero, List.set_cons_succ, List.getElem_toArray, List.getElem_cons_succ, List.getElem_cons_zero]
                  refine wpAnyH_take (i := 14) (v := ?_) rfl (by kernel_rfl) (by kernel_rfl) (by kernel_rfl) (fun _ _ _ h => h) (Or.inl ⟨by rfl, ?_⟩) (by assumption) ?_
                  rotate_left
                  · intro X hSw; (try dsimp only at hSw); (try simp only [List.getElem_toArray, List.getElem_cons_succ, List.getElem_cons_zero]); first | (go_simp; done) | (go_simp; with_reducible rfl)
                  try simp only [Act.put, List.setIfInBounds_toArray, List.set_cons_zero, List.set_cons_succ, List.getElem_toArray, List.getElem_cons_succ, List.getElem_cons_zero]
                  refine wpAnyH_done (by kernel_rfl) ?_ _
                  have HWA := Lib.hid ((HW9.out.below (drewN_below (Below.refl _ _) qq)).1)
                  have HBA : Hid (Below w.heap.size w (w9.drewN qq)) := drewN_below HB9.out qq
                  have HKA : Hid ((w9.drewN qq).heap[gm]? = w6.heap[gm]?) := HK9.out.1 gm (by simp)
                  go_wp2
                  go_meet
                  exact ⟨rfl, HWA.out, HBA.out, HKA.out⟩
                case rest =>
                  obtain ⟨rfl, HWA, HBA, HKA⟩ := hcut
                  obtain ⟨wA, hwA⟩ : ∃ X, X = wc := ⟨_, rfl⟩
                  subst hwA
                  have HIN : Hid (∀ W : World, (∃ cs t, W.heap[gm]? = some (.cells cs t (0, 0)) ∧ nt + 1 ≤ cs.size) → ∀ j, j < nt → (∃ v, W.cell? ⟨gm, j, none⟩ = some v) ∧ W.frozen? ⟨gm, j, none⟩ = false) := fun W hW j hj => by
                    obtain ⟨cs, t, h1, h2⟩ := hW
                    refine ⟨⟨cs[j]'(by omega), ?_⟩, Lib.frozen_of_heap h1 j⟩
                    rw [Lib.cell_of_heap h1]
                    exact Array.getElem?_eq_getElem (by omega)
                  have HC0 : Hid (∃ cs t, wA.heap[gm]? = some (.cells cs t (0, 0)) ∧ nt + 1 ≤ cs.size) := by
                    show ∃ cs t, _
                    rw [HKA.out]
                    exact HGM.out
                  go_wp2
                  go_loopw [20] (fun i ws => ∃ j : Nat, j ≤ nt ∧ i = .int .i64 j ∧ Hid (Wl w.heap.size c b x w7.heap.size [gm, p] nm (.pointer (some ⟨g, 0, none⟩)) (.pointer (some ⟨y, 0, none⟩)) st2 r2 (some (lg2, lg2)) k ws) ∧ Hid (Below w.heap.size w ws) ∧ Hid (∃ cs t, ws.heap[gm]? = some (.cells cs t (0, 0)) ∧ nt + 1 ≤ cs.size)) (fun i _ => nt - (intOf i).toNat)
                  case atStart => exact ⟨0, Nat.zero_le _, rfl, HWA.out, HBA.out, HC0.out⟩
                  case round =>
                    clear HWA HBA HKA HC0
                    obtain ⟨j, hj, rfl, HWS, HBS, HCS⟩ := hrel
                    have i1 : (0 : Int) ≤ (j : Int) := by omega
                    by_cases hjn : j < nt
                    · obtain ⟨⟨v, hv⟩, hfz⟩ := HIN.out _ HCS.out j hjn
                      have i2 : (j : Int) < (nt : Int) := by omega
                      have HWN := Lib.hid (HWS.out.setZ (g := gm) (by simp) hgB j (.string ⟨#[111, 116, 104, 101, 114]⟩))
                      have HCN : Hid (∃ cs t, (wr.setCell ⟨gm, j, none⟩ (.string ⟨#[111, 116, 104, 101, 114]⟩)).heap[gm]? = some (.cells cs t (0, 0)) ∧ nt + 1 ≤ cs.size) := by
                        obtain ⟨cs, t, h1, h2⟩ := HCS.out
                        exact ⟨_, t, Blk.set_ (show Blk wr gm t cs from h1) j _, by simpa using h2⟩
                      go_wp2
                      go_roundw
                      case rel => exact ⟨j + 1, hjn, by go_num, HWN.out.1, HBS.out.trans HWN.out.2, HCN.out⟩
                      case measure => simp [intOf]; omega
                    · have HWX := Lib.hid (HWS.out.lessZ (Z' := []) (fun _ h => absurd h List.not_mem_nil))
                      go_wp2
                      go_meet
                      exact ⟨_, _, _, _, rfl, rfl, HWX.out, HA2.out, HL2.out, HBS.out⟩
              -->
    case rest =>
      --<<
      obtain ⟨st1, r1, lo1, ev1, rfl, rfl, HWX, HAX, HLX, HBX⟩ := hcut
      obtain ⟨X, hXX⟩ : ∃ X, X = wc := ⟨_, rfl⟩
      subst hXX
      as_aux_lemma =>
      clear q0 q1 q2 q3 HWB5 HB5 HAG HLO HB HKP
      cases lo1 with
      | none =>
        obtain ⟨rfl, rfl⟩ : u11 = .pointer none ∧ u13 = .pointer none := by
          obtain ⟨S, T, Y, tv, wv, L, h⟩ := HWX.out
          exact ⟨h.lg.1, h.lg.2.1⟩
        have SM := Lib.hid (wl_same HWX.out HAX.out)
        go_wp2_with fail
        refine SM.out.mono ?_
        rintro e w6 ⟨rfl, hw6, hk6⟩
        have HW6 := Lib.hid (hw6.mono (Nat.le_succ k))
        have HB6 : Hid (Below w.heap.size w w6) := HBX.out.trans hk6.2
        clear hw6 hk6 SM
        go_wp2
        go_roundw
        case rel => exact ⟨k + 1, _, _, _, _, hlt, by go_num, rfl, rfl, HW6.out, HAX.out, HLX.out, HB6.out⟩
        case measure => simp [intOf]; omega
      | some lp =>
        obtain ⟨lg, lg5⟩ := lp
        obtain ⟨hle, hl1, hl2, hl3⟩ := HLX.out
        dsimp only at hle hl1 hl2 hl3
        subst hle
        obtain ⟨g, y, rfl, rfl⟩ := log_parts HWX.out
        have SM := Lib.hid (wl_same HWX.out HAX.out)
        go_wp2_with fail
        refine SM.out.mono ?_
        rintro e w6 ⟨rfl, hw6, hk6⟩
        have HW6 := Lib.hid hw6
        have HB6 : Hid (Below w.heap.size w w6) := HBX.out.trans hk6.2
        have RE := Lib.hid (wl_records hw6 (by omega))
        clear hw6 hk6 SM
        go_wp2_with fail
        refine RE.out.mono ?_
        rintro e w8 ⟨v, rfl, ho8, hb8⟩
        have TX := Lib.hid (wl_texts HW6.out hb8 ho8 (by omega) (by omega))
        have HB8 : Hid (Below w.heap.size w w8) := HB6.out.trans (hb8.mono HB6.out.size)
        clear ho8 hb8 RE
        go_wp2_with fail
        refine TX.out.mono ?_
        rintro e w9 ⟨rfl, hw9, hk9, ho9⟩
        have HB9 : Hid (Below w.heap.size w w9) := HB6.out.trans hk9.2
        obtain ⟨AV, cV, rfl, _⟩ := own_form ho9
        obtain ⟨A5, c5, h5⟩ := Wl.log5 hw9
        have HW9 := Lib.hid hw9
        obtain ⟨nr, hnr⟩ : ∃ nr, lg.recs.length = nr := ⟨_, rfl⟩
        have hrv := Reads.of_own ho9
        rw [hnr] at hrv h5 hl1
        rw [hnr]
        have HH5 := Lib.hid h5
        have HSA : Hid (∀ W, Below w9.heap.size w9 W → Calls Tryz.prog 18 #[.slice AV nr cV, .slice A5 nr c5] W fun e w' => e = .returned (.bool true) ∧ Below W.heap.size W w') := fun W hW => by
          have h := same_any lg.recs lg.recs AV A5 cV c5 W.heap.size W (by rw [hnr]; exact (hrv.below hW).more hW.size) (by rw [hnr]; exact (h5 W hW).2.2.2) (by rw [hnr]; omega) (by rw [hnr]; omega)
          rw [hnr, sameB_refl5] at h
          refine h.mono ?_
          rintro e w' ⟨g1, q, rfl⟩
          exact ⟨g1, drewN_below (Below.refl _ _) q⟩
        have HGR := Lib.hid (fun W hW => wl_groups hw9 W hW)
        have HKS : Hid (∀ W, Below w9.heap.size w9 W → W.cell? ⟨y, 2, none⟩ = some (.slice A5 nr c5) ∧ W.cell? ⟨y, 3, none⟩ = some (.int .i64 lg.groups) ∧ W.cell? ⟨y, 4, none⟩ = some (.int .i64 lg.size)) := fun W hW => ⟨(h5 W hW).1, (h5 W hW).2.1, (h5 W hW).2.2.1⟩
        have BX0 : Hid (Below w9.heap.size w9 w9.drew) := (Below.refl _ _).drew
        clear hw9 hk9 ho9 h5 hnr hrv TX
        go_wp2
        refine wp_region_held_drew (S := fun Y => Y.cell? ⟨y, 2, none⟩ = some (.slice A5 nr c5) ∧ Y.cell? ⟨y, 3, none⟩ = some (.int .i64 lg.groups) ∧ Y.cell? ⟨y, 4, none⟩ = some (.int .i64 lg.size)) (by kernel_rfl) (HKS.out _ BX0.out) (fun hHeld => ?_)
        refine wpAnyH_take (i := 0) (v := ?_) rfl (by kernel_rfl) (by kernel_rfl) (by kernel_rfl) (fun _ _ _ h => h) (Or.inl ⟨by rfl, ?_⟩) (by assumption) ?_
        rotate_left
        · intro X hSw; (try dsimp only at hSw); obtain ⟨s1, s2, s3⟩ := hSw; (try simp only [List.getElem_toArray, List.getElem_cons_succ, List.getElem_cons_zero]); first | (go_simp; done) | (go_simp; with_reducible rfl)
        try simp only [Act.put, List.setIfInBounds_toArray, List.set_cons_zero, List.set_cons_succ, List.getElem_toArray, List.getElem_cons_succ, List.getElem_cons_zero]
        refine wpAnyH_take (i := 1) (v := ?_) rfl (by kernel_rfl) (by kernel_rfl) (by kernel_rfl) (fun _ _ _ h => h) (Or.inl ⟨by rfl, ?_⟩) (by assumption) ?_
        rotate_left
        · intro X hSw; (try dsimp only at hSw); obtain ⟨s1, s2, s3⟩ := hSw; (try simp only [List.getElem_toArray, List.getElem_cons_succ, List.getElem_cons_zero]); first | (go_simp; done) | (go_simp; with_reducible rfl)
        try simp only [Act.put, List.setIfInBounds_toArray, List.set_cons_zero, List.set_cons_succ, List.getElem_toArray, List.getElem_cons_succ, List.getElem_cons_zero]
        refine wpAnyH_take (i := 2) (v := ?_) rfl (by kernel_rfl) (by kernel_rfl) (by kernel_rfl) (fun _ _ _ h => h) (Or.inl ⟨by rfl, ?_⟩) (by assumption) ?_
        rotate_left
        · intro X hSw; (try dsimp only at hSw); obtain ⟨s1, s2, s3⟩ := hSw; (try simp only [List.getElem_toArray, List.getElem_cons_succ, List.getElem_cons_zero]); first | (go_simp; done) | (go_simp; with_reducible rfl)
        try simp only [Act.put, List.setIfInBounds_toArray, List.set_cons_zero, List.set_cons_succ, List.getElem_toArray, List.getElem_cons_succ, List.getElem_cons_zero]
        refine wpAnyH_take (i := 3) (v := ?_) rfl (by kernel_rfl) (by kernel_rfl) (by kernel_rfl) (fun _ _ _ h => h) (Or.inl ⟨by rfl, ?_⟩) (by assumption) ?_
        rotate_left
        · intro X hSw; (try dsimp only at hSw); obtain ⟨s1, s2, s3⟩ := hSw; (try simp only [List.getElem_toArray, List.getElem_cons_succ, List.getElem_cons_zero]); first | (go_simp; done) | (go_simp; with_reducible rfl)
        try simp only [Act.put, List.setIfInBounds_toArray, List.set_cons_zero, List.set_cons_succ, List.getElem_toArray, List.getElem_cons_succ, List.getElem_cons_zero]
        refine wpAnyH_take (i := 4) (v := ?_) rfl (by kernel_rfl) (by kernel_rfl) (by kernel_rfl) (fun _ _ _ h => h) (Or.inl ⟨by rfl, ?_⟩) (by assumption) ?_
        rotate_left
        · intro X hSw; (try dsimp only at hSw); obtain ⟨s1, s2, s3⟩ := hSw; (try simp only [List.getElem_toArray, List.getElem_cons_succ, List.getElem_cons_zero]); first | (go_simp; done) | (go_simp; with_reducible rfl)
        try simp only [Act.put, List.setIfInBounds_toArray, List.set_cons_zero, List.set_cons_succ, List.getElem_toArray, List.getElem_cons_succ, List.getElem_cons_zero]
        refine wpAnyH_ready (rs := [5]) (by kernel_rfl) (by simp) (AllReadyH.cons rfl (fun K hK => ?_) AllReadyH.nil)
        try simp only [List.getElem_toArray, List.getElem_cons_succ, List.getElem_cons_zero]
        go_simp
        refine (HSA.out _ BX0.out).mono ?_
        rintro e wE ⟨rfl, hbE⟩
        have BX1 : Hid (Below w9.heap.size w9 wE) := BX0.out.trans (hbE.mono BX0.out.size)
        clear hbE
        refine hK.out _ _ (HKS.out _ BX1.out) (fun hHeld => ?_)
        clear hK K
        try simp only [Act.put, List.setIfInBounds_toArray, List.set_cons_zero, List.set_cons_succ, List.getElem_toArray, List.getElem_cons_succ, List.getElem_cons_zero]
        refine wpAnyH_take (i := 6) (v := ?_) rfl (by kernel_rfl) (by kernel_rfl) (by kernel_rfl) (fun _ _ _ h => h) (Or.inl ⟨by rfl, ?_⟩) (by assumption) ?_
        rotate_left
        · intro X hSw; (try dsimp only at hSw); obtain ⟨s1, s2, s3⟩ := hSw; (try simp only [List.getElem_toArray, List.getElem_cons_succ, List.getElem_cons_zero]); first | (go_simp; done) | (go_simp; with_reducible rfl)
        try simp only [Act.put, List.setIfInBounds_toArray, List.set_cons_zero, List.set_cons_succ, List.getElem_toArray, List.getElem_cons_succ, List.getElem_cons_zero]
        refine wpAnyH_take (i := 7) (v := ?_) rfl (by kernel_rfl) (by kernel_rfl) (by kernel_rfl) (fun _ _ _ h => h) (Or.inl ⟨by rfl, ?_⟩) (by assumption) ?_
        rotate_left
        · intro X hSw; (try dsimp only at hSw); obtain ⟨s1, s2, s3⟩ := hSw; (try simp only [List.getElem_toArray, List.getElem_cons_succ, List.getElem_cons_zero]); first | (go_simp; done) | (go_simp; with_reducible rfl)
        try simp only [Act.put, List.setIfInBounds_toArray, List.set_cons_zero, List.set_cons_succ, List.getElem_toArray, List.getElem_cons_succ, List.getElem_cons_zero]
        refine wpAnyH_take (i := 8) (v := ?_) rfl (by kernel_rfl) (by kernel_rfl) (by kernel_rfl) (fun _ _ _ h => h) (Or.inl ⟨by rfl, ?_⟩) (by assumption) ?_
        rotate_left
        · intro X hSw; (try dsimp only at hSw); obtain ⟨s1, s2, s3⟩ := hSw; (try simp only [List.getElem_toArray, List.getElem_cons_succ, List.getElem_cons_zero]); first | (go_simp; done) | (go_simp; with_reducible rfl)
        try simp only [Act.put, List.setIfInBounds_toArray, List.set_cons_zero, List.set_cons_succ, List.getElem_toArray, List.getElem_cons_succ, List.getElem_cons_zero]
        refine wpAnyH_take (i := 10) (v := ?_) rfl (by kernel_rfl) (by kernel_rfl) (by kernel_rfl) (fun _ _ _ h => h) (Or.inl ⟨by rfl, ?_⟩) (by assumption) ?_
        rotate_left
        · intro X hSw; (try dsimp only at hSw); obtain ⟨s1, s2, s3⟩ := hSw; (try simp only [List.getElem_toArray, List.getElem_cons_succ, List.getElem_cons_zero]); first | (go_simp; done) | (go_simp; with_reducible rfl)
        try simp only [Act.put, List.setIfInBounds_toArray, List.set_cons_zero, List.set_cons_succ, List.getElem_toArray, List.getElem_cons_succ, List.getElem_cons_zero]
        refine wpAnyH_take (i := 11) (v := ?_) rfl (by kernel_rfl) (by kernel_rfl) (by kernel_rfl) (fun _ _ _ h => h) (Or.inl ⟨by rfl, ?_⟩) (by assumption) ?_
        rotate_left
        · intro X hSw; (try dsimp only at hSw); obtain ⟨s1, s2, s3⟩ := hSw; (try simp only [List.getElem_toArray, List.getElem_cons_succ, List.getElem_cons_zero]); first | (go_simp; done) | (go_simp; with_reducible rfl)
        try simp only [Act.put, List.setIfInBounds_toArray, List.set_cons_zero, List.set_cons_succ, List.getElem_toArray, List.getElem_cons_succ, List.getElem_cons_zero]
        refine wpAnyH_take (i := 12) (v := ?_) rfl (by kernel_rfl) (by kernel_rfl) (by kernel_rfl) (fun _ _ _ h => h) (Or.inl ⟨by rfl, ?_⟩) (by assumption) ?_
        rotate_left
        · intro X hSw; (try dsimp only at hSw); obtain ⟨s1, s2, s3⟩ := hSw; (try simp only [List.getElem_toArray, List.getElem_cons_succ, List.getElem_cons_zero]); first | (go_simp; done) | (go_simp; with_reducible rfl)
        try simp only [Act.put, List.setIfInBounds_toArray, List.set_cons_zero, List.set_cons_succ, List.getElem_toArray, List.getElem_cons_succ, List.getElem_cons_zero]
        refine wpAnyH_take (i := 13) (v := ?_) rfl (by kernel_rfl) (by kernel_rfl) (by kernel_rfl) (fun _ _ _ h => h) (Or.inl ⟨by rfl, ?_⟩) (by assumption) ?_
        rotate_left
        · intro X hSw; (try dsimp only at hSw); obtain ⟨s1, s2, s3⟩ := hSw; (try simp only [List.getElem_toArray, List.getElem_cons_succ, List.getElem_cons_zero]); first | (go_simp; done) | (go_simp; with_reducible rfl)
        try simp only [Act.put, List.setIfInBounds_toArray, List.set_cons_zero, List.set_cons_succ, List.getElem_toArray, List.getElem_cons_succ, List.getElem_cons_zero]
        refine wpAnyH_ready (rs := [9]) (by kernel_rfl) (by simp) (AllReadyH.cons rfl (fun K hK => ?_) AllReadyH.nil)
        try simp only [List.getElem_toArray, List.getElem_cons_succ, List.getElem_cons_zero]
        go_simp
        refine ((HGR.out _ BX1.out).1).mono ?_
        rintro e wF ⟨rfl, hwF⟩
        obtain rfl : wE = wF := hwF
        refine hK.out _ _ (HKS.out _ BX1.out) (fun hHeld => ?_)
        clear hK K
        try simp only [Act.put, List.setIfInBounds_toArray, List.set_cons_zero, List.set_cons_succ, List.getElem_toArray, List.getElem_cons_succ, List.getElem_cons_zero]
        refine wpAnyH_take (i := 14) (v := ?_) rfl (by kernel_rfl) (by kernel_rfl) (by kernel_rfl) (fun _ _ _ h => h) (Or.inl ⟨by rfl, ?_⟩) (by assumption) ?_
        rotate_left
        · intro X hSw; (try dsimp only at hSw); obtain ⟨s1, s2, s3⟩ := hSw; (try simp only [List.getElem_toArray, List.getElem_cons_succ, List.getElem_cons_zero]); first | (go_simp; done) | (go_simp; with_reducible rfl)
        try simp only [Act.put, List.setIfInBounds_toArray, List.set_cons_zero, List.set_cons_succ, List.getElem_toArray, List.getElem_cons_succ, List.getElem_cons_zero]
        refine wpAnyH_take (i := 15) (v := ?_) rfl (by kernel_rfl) (by kernel_rfl) (by kernel_rfl) (fun _ _ _ h => h) (Or.inl ⟨by rfl, ?_⟩) (by assumption) ?_
        rotate_left
        · intro X hSw; (try dsimp only at hSw); obtain ⟨s1, s2, s3⟩ := hSw; (try simp only [List.getElem_toArray, List.getElem_cons_succ, List.getElem_cons_zero]); first | (go_simp; done) | (go_simp; with_reducible rfl)
        try simp only [Act.put, List.setIfInBounds_toArray, List.set_cons_zero, List.set_cons_succ, List.getElem_toArray, List.getElem_cons_succ, List.getElem_cons_zero]
        refine wpAnyH_take (i := 16) (v := ?_) rfl (by kernel_rfl) (by kernel_rfl) (by kernel_rfl) (fun _ _ _ h => h) (Or.inl ⟨by rfl, ?_⟩) (by assumption) ?_
        rotate_left
        · intro X hSw; (try dsimp only at hSw); obtain ⟨s1, s2, s3⟩ := hSw; (try simp only [List.getElem_toArray, List.getElem_cons_succ, List.getElem_cons_zero]); first | (go_simp; done) | (go_simp; with_reducible rfl)
        try simp only [Act.put, List.setIfInBounds_toArray, List.set_cons_zero, List.set_cons_succ, List.getElem_toArray, List.getElem_cons_succ, List.getElem_cons_zero]
        refine wpAnyH_take (i := 17) (v := ?_) rfl (by kernel_rfl) (by kernel_rfl) (by kernel_rfl) (fun _ _ _ h => h) (Or.inl ⟨by rfl, ?_⟩) (by assumption) ?_
        rotate_left
        · intro X hSw; (try dsimp only at hSw); obtain ⟨s1, s2, s3⟩ := hSw; (try simp only [List.getElem_toArray, List.getElem_cons_succ, List.getElem_cons_zero]); first | (go_simp; done) | (go_simp; with_reducible rfl)
        try simp only [Act.put, List.setIfInBounds_toArray, List.set_cons_zero, List.set_cons_succ, List.getElem_toArray, List.getElem_cons_succ, List.getElem_cons_zero]
        refine wpAnyH_take (i := 19) (v := ?_) rfl (by kernel_rfl) (by kernel_rfl) (by kernel_rfl) (fun _ _ _ h => h) (Or.inl ⟨by rfl, ?_⟩) (by assumption) ?_
        rotate_left
        · intro X hSw; (try dsimp only at hSw); obtain ⟨s1, s2, s3⟩ := hSw; (try simp only [List.getElem_toArray, List.getElem_cons_succ, List.getElem_cons_zero]); first | (go_simp; done) | (go_simp; with_reducible rfl)
        try simp only [Act.put, List.setIfInBounds_toArray, List.set_cons_zero, List.set_cons_succ, List.getElem_toArray, List.getElem_cons_succ, List.getElem_cons_zero]
        refine wpAnyH_take (i := 20) (v := ?_) rfl (by kernel_rfl) (by kernel_rfl) (by kernel_rfl) (fun _ _ _ h => h) (Or.inl ⟨by rfl, ?_⟩) (by assumption) ?_
        rotate_left
        · intro X hSw; (try dsimp only at hSw); obtain ⟨s1, s2, s3⟩ := hSw; (try simp only [List.getElem_toArray, List.getElem_cons_succ, List.getElem_cons_zero]); first | (go_simp; done) | (go_simp; with_reducible rfl)
        try simp only [Act.put, List.setIfInBounds_toArray, List.set_cons_zero, List.set_cons_succ, List.getElem_toArray, List.getElem_cons_succ, List.getElem_cons_zero]
        refine wpAnyH_take (i := 21) (v := ?_) rfl (by kernel_rfl) (by kernel_rfl) (by kernel_rfl) (fun _ _ _ h => h) (Or.inl ⟨by rfl, ?_⟩) (by assumption) ?_
        rotate_left
        · intro X hSw; (try dsimp only at hSw); obtain ⟨s1, s2, s3⟩ := hSw; (try simp only [List.getElem_toArray, List.getElem_cons_succ, List.getElem_cons_zero]); first | (go_simp; done) | (go_simp; with_reducible rfl)
        try simp only [Act.put, List.setIfInBounds_toArray, List.set_cons_zero, List.set_cons_succ, List.getElem_toArray, List.getElem_cons_succ, List.getElem_cons_zero]
        refine wpAnyH_take (i := 22) (v := ?_) rfl (by kernel_rfl) (by kernel_rfl) (by kernel_rfl) (fun _ _ _ h => h) (Or.inl ⟨by rfl, ?_⟩) (by assumption) ?_
        rotate_left
        · intro X hSw; (try dsimp only at hSw); obtain ⟨s1, s2, s3⟩ := hSw; (try simp only [List.getElem_toArray, List.getElem_cons_succ, List.getElem_cons_zero]); first | (go_simp; done) | (go_simp; with_reducible rfl)
        try simp only [Act.put, List.setIfInBounds_toArray, List.set_cons_zero, List.set_cons_succ, List.getElem_toArray, List.getElem_cons_succ, List.getElem_cons_zero]
        refine wpAnyH_ready (rs := [18]) (by kernel_rfl) (by simp) (AllReadyH.cons rfl (fun K hK => ?_) AllReadyH.nil)
        try simp only [List.getElem_toArray, List.getElem_cons_succ, List.getElem_cons_zero]
        go_simp
        refine ((HGR.out _ BX1.out).2).mono ?_
        rintro e wF ⟨rfl, hwF⟩
        obtain rfl : wE = wF := hwF
        refine hK.out _ _ (HKS.out _ BX1.out) (fun hHeld => ?_)
        clear hK K
        try simp only [Act.put, List.setIfInBounds_toArray, List.set_cons_zero, List.set_cons_succ, List.getElem_toArray, List.getElem_cons_succ, List.getElem_cons_zero]
        refine wpAnyH_take (i := 23) (v := ?_) rfl (by kernel_rfl) (by kernel_rfl) (by kernel_rfl) (fun _ _ _ h => h) (Or.inl ⟨by rfl, ?_⟩) (by assumption) ?_
        rotate_left
        · intro X hSw; (try dsimp only at hSw); obtain ⟨s1, s2, s3⟩ := hSw; (try simp only [List.getElem_toArray, List.getElem_cons_succ, List.getElem_cons_zero]); first | (go_simp; done) | (go_simp; with_reducible rfl)
        try simp only [Act.put, List.setIfInBounds_toArray, List.set_cons_zero, List.set_cons_succ, List.getElem_toArray, List.getElem_cons_succ, List.getElem_cons_zero]
        refine wpAnyH_take (i := 24) (v := ?_) rfl (by kernel_rfl) (by kernel_rfl) (by kernel_rfl) (fun _ _ _ h => h) (Or.inl ⟨by rfl, ?_⟩) (by assumption) ?_
        rotate_left
        · intro X hSw; (try dsimp only at hSw); obtain ⟨s1, s2, s3⟩ := hSw; (try simp only [List.getElem_toArray, List.getElem_cons_succ, List.getElem_cons_zero]); first | (go_simp; done) | (go_simp; with_reducible rfl)
        try simp only [Act.put, List.setIfInBounds_toArray, List.set_cons_zero, List.set_cons_succ, List.getElem_toArray, List.getElem_cons_succ, List.getElem_cons_zero]
        refine wpAnyH_done (by kernel_rfl) ?_ _
        have HWE := Lib.hid ((HW9.out.below BX1.out).1)
        have HBE : Hid (Below w.heap.size w wE) := HB9.out.trans (BX1.out.mono HB9.out.size)
        clear HSA HGR HKS BX0 BX1
        go_wp2
        go_roundw
        case rel => exact ⟨k + 1, _, _, _, _, hlt, by go_num, rfl, rfl, HWE.out, HAX.out, HLX.out, HBE.out⟩
        case measure => simp [intOf]; omega
      -->>
  -->>
end Go.Proofs.YtfmbadinfhpihaaGreat
