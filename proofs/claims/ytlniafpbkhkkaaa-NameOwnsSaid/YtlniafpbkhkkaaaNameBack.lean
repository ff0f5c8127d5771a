/-
  NameBack: what is added and taken out again leaves a set as it was.
  Conditions: texts in lists that the call reads.
-/
import Derived.Test.YtlniafpbkhkkaaaName7
import Derived.Test.YtlniafpbkhkkaaaShort
import Derived.Test.YtlniafpbkhkkaaaSameT
namespace Go.Proofs.Ytlniafpbkhkkaaa
open Go.RowKit Go.Maps Go.Sort

theorem info_str1 : (Try.prog.info? 9).map (fun i => (i.zero, i.size, i.bytes)) = some (some (.string ⟨#[]⟩), 1, 16) := by kernel_rfl
theorem total_mem {ss : List ByteArray} {s : ByteArray} (h : s ∈ ss) : s.size ≤ total ss := by
  unfold total
  induction ss with
  | nil => cases h
  | cons x r ih =>
    simp only [List.map_cons, List.sum_cons]
    rcases List.mem_cons.1 h with rfl | h
    · omega
    · have := ih h; omega
theorem short_yes {few rm : Nat} {ss : List ByteArray} (h : shortB few rm ss = true) : ss.length ≤ few ∧ ∀ s ∈ ss, s.size ≤ rm := by
  unfold shortB at h
  have h1 := of_decide_eq_true h
  exact ⟨h1.1, fun s hs => Nat.le_trans (total_mem hs) h1.2⟩
theorem short2_any (ss : List ByteArray) (A : Option Addr) (c : Nat) (w : World) (hr : Reads w w.heap.size 1 A ss.length (strs ss)) (hl : ss.length ≤ 9223372036854775807) (hs : ∀ s ∈ ss, s.size ≤ 9223372036854775807) :
    Calls Try.prog 8 #[.slice A ss.length c] w fun e w' => e = .returned (.bool (shortB 300 9000 ss)) ∧ Below w.heap.size w w' := by
  have h := fun c => short_any 300 9000 (by decide) (by decide) ss A c w hr hl hs
  obtain ⟨n, hn⟩ : ∃ n, ss.length = n := ⟨_, rfl⟩
  obtain ⟨b, hb⟩ : ∃ b, shortB 300 9000 ss = b := ⟨_, rfl⟩
  rw [hb]
  rw [hb, hn] at h
  rw [hn]
  have H := fun c => Lib.hid (h c)
  clear h hr hl hs hn hb
  go_enter Try.func8, Try.ntmps8
  go_wp2_with fail
  refine (H c).out.mono ?_
  rintro e w1 ⟨rfl, hb1⟩
  have HB := Lib.hid hb1
  clear hb1
  go_wp2
  go_ret
  exact ⟨rfl, HB.out⟩

theorem ownsRow_keepN {w w' : World} {base : Nat} {e : TypeId} {size : Nat} {v : Value} {n : Nat} {xs : List Value} (h : w.ownsRow base e size v n xs) (hb : ∀ k, v.ownBlock = some k → w'.heap[k]? = w.heap[k]?) : w'.ownsRow base e size v n xs := by
  obtain ⟨h1, h2⟩ := h
  refine ⟨h1, ?_⟩
  rcases h2 with h2 | ⟨g, cap, cur, hv, hg, hh, r⟩
  · exact .inl h2
  · exact .inr ⟨g, cap, cur, hv, hg, by rw [hb g (by rw [hv]; rfl)]; exact hh, r⟩
theorem reads_block {w : World} {B size n : Nat} {A : Option Addr} {xs : List Value} (h : Reads w B size A n xs) (hn : 0 < n) : ∀ ad, A = some ad → ad.block < B := by
  intro ad e
  obtain ⟨ad', e', hb, _⟩ := h.2 hn
  rw [e] at e'
  injection e' with e'
  subst e'
  exact hb
/-- What of some texts is not in a set. -/
def fresh (D : DataW Unit) (l : List ByteArray) : List ByteArray := l.filter fun s => !hasS D s
theorem fresh_step {D : DataW Unit} {l : List ByteArray} {k : Nat} {s : ByteArray} (h : l[k]? = some s) : fresh D (l.take (k + 1)) = if hasS D s = true then fresh D (l.take k) else fresh D (l.take k) ++ [s] := by
  unfold fresh
  rw [take_snoc h, List.filter_append]
  cases h1 : hasS D s <;> simp [h1]
theorem mem_fresh {D : DataW Unit} {l : List ByteArray} {s : ByteArray} : s ∈ fresh D l ↔ s ∈ l ∧ ¬ hasS D s = true := by
  unfold fresh
  rw [List.mem_filter]
  cases hasS D s <;> simp
theorem back_has {D : DataW Unit} (h : GoodS D) (l : List ByteArray) (s : ByteArray) : hasS (delS (addS D l) (fresh D l)) s = true ↔ hasS D s = true := by
  rw [hasS_dels, hasS_add h, mem_fresh]
  constructor
  · rintro ⟨h1, h2 | h2⟩
    · rcases Decidable.em (hasS D s = true) with h3 | h3
      · exact h3
      · exact absurd ⟨h2, h3⟩ h1
    · exact h2
  · intro h1
    exact ⟨fun h2 => h2.2 h1, .inr h1⟩
theorem back_lst {D : DataW Unit} (h : GoodS D) (l : List ByteArray) : lstS (delS (addS D l) (fresh D l)) = lstS D := lstS_ext ((h.add l).dels _) h (back_has h l)
theorem back_size {D : DataW Unit} (h : GoodS D) (l : List ByteArray) : Maps.size (delS (addS D l) (fresh D l)) = Maps.size D := size_ext ((h.add l).dels _) h (back_has h l)
theorem again_size {first : List ByteArray} {D : DataW Unit} (h : GoodS D) (he : ∀ s, hasS D s = true ↔ hasS (setS first) s = true) : Maps.size (addS D first) = Maps.size D := by
  refine size_ext (h.add _) h fun s => ?_
  rw [hasS_add h, he, hasS_set]
  constructor
  · rintro (h | h) <;> exact h
  · exact .inl

set_option maxHeartbeats 1000000 in
theorem nback_early (ss tt : List ByteArray) (A B : Option Addr) (cp cq : Nat) (w : World) (hrs : Reads w w.heap.size 1 A ss.length (strs ss)) (hrt : Reads w w.heap.size 1 B tt.length (strs tt)) (hl : ss.length ≤ 9223372036854775807) (hm : tt.length ≤ 9223372036854775807)
    (hs : ∀ s ∈ ss, s.size ≤ 9223372036854775807) (ht : ∀ s ∈ tt, s.size ≤ 9223372036854775807) (h : shortB 300 9000 ss = false ∨ shortB 300 9000 tt = false) :
    Calls Try.prog 6 #[.slice A ss.length cp, .slice B tt.length cq] w fun e w' => e = .returned (.bool true) ∧ Below w.heap.size w w' := by
  have h1 := short2_any ss A cp w hrs hl hs
  have h2 := fun (w1 : World) (hb : Below w.heap.size w w1) => short2_any tt B cq w1 ((hrt.below hb).more hb.size) hm ht
  generalize ss.length = n at *
  generalize tt.length = m at *
  obtain ⟨x, hx⟩ : ∃ x, shortB 300 9000 ss = x := ⟨_, rfl⟩
  obtain ⟨y, hy⟩ : ∃ y, shortB 300 9000 tt = y := ⟨_, rfl⟩
  rw [hx] at h1 h
  rw [hy] at h2 h
  have H1 := Lib.hid h1; have H2 := fun w1 hb => Lib.hid (h2 w1 hb)
  clear h1 h2 hx hy hrs hrt hs ht
  cases x
  · go_enter Try.func6, Try.ntmps6
    go_wp2_with fail
    refine H1.out.mono ?_
    rintro e w1 ⟨rfl, hb1⟩
    have HB1 := Lib.hid hb1
    clear hb1
    go_wp2_with fail
    refine (alive2_any _).mono ?_
    rintro e w2 ⟨rfl, hb2⟩
    have HB2 := Lib.hid (HB1.out.trans (hb2.mono HB1.out.size))
    clear hb2
    go_wp2
    go_ret
    exact ⟨rfl, HB2.out⟩
  · obtain rfl : y = false := by simpa using h
    clear h
    go_enter Try.func6, Try.ntmps6
    go_wp2_with fail
    refine H1.out.mono ?_
    rintro e w1 ⟨rfl, hb1⟩
    have H21 := H2 w1 hb1
    have HB1 := Lib.hid hb1
    clear hb1
    go_wp2_with fail
    refine H21.out.mono ?_
    rintro e w2 ⟨rfl, hb2⟩
    have HB2 := Lib.hid (HB1.out.trans (hb2.mono HB1.out.size))
    clear hb2
    go_wp2_with fail
    refine (alive2_any _).mono ?_
    rintro e w3 ⟨rfl, hb3⟩
    have HB3 := Lib.hid (HB2.out.trans (hb3.mono HB2.out.size))
    clear hb3
    go_wp2
    go_ret
    exact ⟨rfl, HB3.out⟩

set_option maxHeartbeats 4000000 in
set_option maxRecDepth 100000 in
theorem nback_walk (ss tt : List ByteArray) (A B : Option Addr) (cp cq : Nat) (w : World) (hrs : Reads w w.heap.size 1 A ss.length (strs ss)) (hrt : Reads w w.heap.size 1 B tt.length (strs tt)) (hl : ss.length ≤ 9223372036854775807) (hm : tt.length ≤ 9223372036854775807)
    (hs : ∀ s ∈ ss, s.size ≤ 9223372036854775807) (ht : ∀ s ∈ tt, s.size ≤ 9223372036854775807) :
    Calls Try.prog 6 #[.slice A ss.length cp, .slice B tt.length cq] w fun e w' => e = .returned (.bool true) ∧ Below w.heap.size w w' := by
  by_cases hearly : shortB 300 9000 ss = false ∨ shortB 300 9000 tt = false
  · exact nback_early ss tt A B cp cq w hrs hrt hl hm hs ht hearly
  have hx : shortB 300 9000 ss = true := by cases h : shortB 300 9000 ss <;> simp [h] at hearly ⊢
  have hy : shortB 300 9000 tt = true := by cases h : shortB 300 9000 tt <;> simp [h] at hearly ⊢
  obtain ⟨hl3, hs9⟩ := short_yes hx
  obtain ⟨hm3, ht9⟩ := short_yes hy
  obtain ⟨i0, hi, hz0, hz1, hz2⟩ := info_parts info_str1
  have hA := fun h => reads_block hrs h
  have hB := fun h => reads_block hrt h
  obtain ⟨D0, hD0⟩ : ∃ D0, setS ss = D0 := ⟨_, rfl⟩
  have hg0 : GoodS D0 := by rw [← hD0]; exact goodS_set ss
  have hz9 := size_set ss
  rw [hD0] at hz9
  have h1 := short2_any ss A cp w hrs hl hs
  have h2 := fun (w1 : World) (hb : Below w.heap.size w w1) => short2_any tt B cq w1 ((hrt.below hb).more hb.size) hm ht
  have h3 := fun (w1 : World) (hb : Below w.heap.size w w1) => newset_any ss A cp w1 (by omega) ((hrs.below hb).more hb.size) (fun h ad e => by have := hA h ad e; have := hb.size; omega) (fun s h => by have := hs9 s h; omega)
  have h4 := fun (c b : Nat) (D : DataW Unit) (w1 : World) (hS : SetAt c b D w1) (hg : GoodS D) (hz : Maps.size D ≤ 2000) (hb : Below w.heap.size w w1) (hbb : w.heap.size ≤ b) => addset_any c b D tt B cq w1 hS hg (by omega) ((hrt.below hb).more hb.size) (fun h ad e => by have := hB h ad e; have := hb.size; omega) (fun s h => by have := ht9 s h; omega)
  have h5 := fun (c b : Nat) (D : DataW Unit) (w1 : World) (hS : SetAt c b D w1) (hg : GoodS D) (hz : Maps.size D ≤ 2000) (hb : Below w.heap.size w w1) (hbb : w.heap.size ≤ b) => addset_any c b D ss A cp w1 hS hg (by omega) ((hrs.below hb).more hb.size) (fun h ad e => by have := hA h ad e; have := hb.size; omega) (fun s h => by have := hs9 s h; omega)
  rw [hx] at h1
  rw [hy] at h2
  rw [hD0] at h3
  obtain ⟨n, hn⟩ : ∃ n, ss.length = n := ⟨_, rfl⟩
  obtain ⟨m, hm9⟩ : ∃ m, tt.length = m := ⟨_, rfl⟩
  rw [hn] at h1 h3 h5 hl3 hz9
  rw [hm9] at h2 h4 hm3
  rw [hn, hm9]
  have H1 := Lib.hid h1; have H2 := fun w1 hb => Lib.hid (h2 w1 hb); have H3 := fun w1 hb => Lib.hid (h3 w1 hb); have H4 := fun c b D w1 hS hg hz hb hbb => Lib.hid (h4 c b D w1 hS hg hz hb hbb); have H5 := fun c b D w1 hS hg hz hb hbb => Lib.hid (h5 c b D w1 hS hg hz hb hbb)
  have Hm := Lib.hid hm9; have HT := Lib.hid hrt; have HT9 := Lib.hid ht9; have HD0 := Lib.hid hD0; have HG0 := Lib.hid hg0
  clear h1 h2 h3 h4 h5 hx hy hearly hrs hrt hl hm hs ht hA hB hs9 ht9 hD0 hn hm9 hg0
  go_enter Try.func6, Try.ntmps6
  go_wp2_with fail
  refine H1.out.mono ?_
  rintro e w1 ⟨rfl, hb1⟩
  have H21 := H2 w1 hb1
  have HB1 := Lib.hid hb1
  clear hb1
  go_wp2_with fail
  refine H21.out.mono ?_
  rintro e w2 ⟨rfl, hb2⟩
  have HB2 := Lib.hid (HB1.out.trans (hb2.mono HB1.out.size))
  clear hb2 H21 H2 H1
  have H32 := H3 w2 HB2.out
  go_wp2_with fail
  refine H32.out.mono ?_
  rintro e w3 ⟨rfl, hS3, hb3⟩
  obtain ⟨c, hc⟩ : ∃ c, w2.heap.size = c := ⟨_, rfl⟩
  rw [hc] at hS3 ⊢
  have hwc : w.heap.size ≤ c := by have := HB2.out.size; omega
  have HS3 := Lib.hid hS3
  have HB3 := Lib.hid (HB2.out.trans (hb3.mono HB2.out.size))
  clear hS3 hb3 H32 H3 hc HB1 HB2
  have hlt3 := HS3.out.ltb
  go_wp2
  go_loopw [6, 7] (fun v i wr => ∃ (k : Nat) (v0 : Value), k ≤ m ∧ v = v0 ∧ i = .int .i64 k ∧ Hid (wr.ownsRow w3.heap.size 9 1 v0 (fresh D0 (tt.take k)).length (strs (fresh D0 (tt.take k)))) ∧ Hid (Below w3.heap.size w3 wr)) (fun _ i _ => m - (intOf i).toNat)
  case atStart => exact ⟨0, _, Nat.zero_le _, rfl, rfl, World.ownsRow_nil w3 _ _ _, Below.refl _ _⟩
  case round =>
    obtain ⟨k, _, hk, rfl, rfl, HO, HB⟩ := hrel
    have hsz := HB.out.size
    have HSr := Lib.hid (HS3.out.below HB.out (by omega) hlt3)
    have HBr := Lib.hid (HB3.out.trans (HB.out.mono HB3.out.size))
    by_cases hlt : k < m
    · obtain ⟨ad, s, rfl, hab, hsk, hc⟩ := str_at ((HT.out.below HBr.out)) (show k < tt.length by rw [Hm.out]; exact hlt)
      have hs9 := HT9.out s (List.mem_of_getElem? hsk)
      have hst := fresh_step (D := D0) hsk
      have HST := Lib.hid hst
      have hh := has_any _ _ D0 s (by omega) wr HSr.out
      have hfl : (fresh D0 (tt.take k)).length ≤ k := by
        unfold fresh
        exact Nat.le_trans (List.length_filter_le _ _) (by rw [List.length_take]; omega)
      clear hst hsk
      cases hx : hasS D0 s
      · have h1 : fresh D0 (tt.take (k + 1)) = fresh D0 (tt.take k) ++ [s] := by rw [HST.out, hx]; rfl
        rw [hx] at hh
        have HH := Lib.hid hh; have HE := Lib.hid h1
        clear hh h1 HST hx
        go_wp2_with fail
        refine HH.out.mono ?_
        rintro e w4 ⟨rfl, hb4⟩
        have hbw := HBr.out.size
        have hcell : w4.cell? (ad.add k) = some (.string s) := (hb4.cell (by rw [block_of_add]; omega)).trans hc
        have HO4 := Lib.hid (ownsRow_keepN HO.out (fun g hg => hb4.block g (HO.out.lt g hg).2))
        have HB4 := Lib.hid (HB.out.trans (hb4.mono hsz))
        have hsz4 := HB4.out.size
        have hz4 : w.heap.size ≤ w4.heap.size := by have := HB3.out.size; omega
        clear hb4 hc
        obtain ⟨fl, hfl9⟩ : ∃ fl, (fresh D0 (tt.take k)).length = fl := ⟨_, rfl⟩
        rw [hfl9] at HO4 hfl
        have HFL := Lib.hid hfl9
        clear hfl9
        go_wp2_with (at_builtin; refine wpList_append_any _ rfl _ _ 22 rfl w3.heap.size 9 i0 (.string ⟨#[]⟩) 1 16 Try.underlying22 hi hz0 hz1 hz2 rfl (by decide) _ _ _ rfl (HO4.out.alloc _) (w4.heap.size + 1) (some ⟨w4.heap.size, 0, none⟩) 1 1 [.string s] rfl ?c1 ?c2 ?c3 ?c4 ?c5 ?_)
        case c1 => exact reads_newV _ _ _ _ rfl rfl rfl (by simp)
        case c2 => simp [Value.oneCell']
        case c3 => unfold maxLen; omega
        case c4 => omega
        case c5 => simp; omega
        intro v3 w5 hown5 hgrow5 _
        have hb5 : Below w3.heap.size w3 w5 := (HB4.out.alloc hsz4 _).grown hgrow5 (by simp; omega) (fun j hj => (HO4.out.lt j hj).1)
        have HO5 : Hid (w5.ownsRow w3.heap.size 9 1 v3 (fresh D0 (tt.take (k + 1))).length (strs (fresh D0 (tt.take (k + 1))))) := by
          show World.ownsRow _ _ _ _ _ _ _
          rw [HE.out, List.length_append, HFL.out]
          unfold strs at hown5 ⊢
          rw [List.map_append]
          exact hown5
        have HB5 := Lib.hid hb5
        clear hown5 hgrow5 hb5 hcell
        go_wp2
        go_roundw
        case rel => exact ⟨k + 1, _, hlt, rfl, by go_num, HO5.out, HB5.out⟩
        case measure => simp [intOf]; omega
      · have h1 : fresh D0 (tt.take (k + 1)) = fresh D0 (tt.take k) := by rw [HST.out, hx]; rfl
        rw [hx] at hh
        have HH := Lib.hid hh; have HE := Lib.hid h1
        clear hh h1 HST hx
        go_wp2_with fail
        refine HH.out.mono ?_
        rintro e w4 ⟨rfl, hb4⟩
        have HO4 := Lib.hid (ownsRow_keepN HO.out (fun g hg => hb4.block g (HO.out.lt g hg).2))
        have HB4 := Lib.hid (HB.out.trans (hb4.mono hsz))
        clear hb4 hc
        go_wp2
        go_roundw
        case rel => exact ⟨k + 1, _, hlt, rfl, by go_num, by rw [HE.out]; exact HO4.out, HB4.out⟩
        case measure => simp [intOf]; omega
    · obtain rfl : k = m := by omega
      have hall : tt.take k = tt := List.take_of_length_le (by have := Hm.out; omega)
      rw [hall] at HO
      obtain ⟨A6, c6, rfl, hr6, hA6⟩ := reads_ownedT HO.out
      have hfl : (fresh D0 tt).length ≤ 300 := by
        unfold fresh
        exact Nat.le_trans (List.length_filter_le _ _) (by have := Hm.out; omega)
      have hf9 : ∀ s ∈ fresh D0 tt, s.size ≤ 281474976710656 := fun s hs => by have := HT9.out s (mem_fresh.1 hs).1; omega
      have hsa := size_addS HG0.out tt
      have hsb := back_size HG0.out tt
      have hlb := back_lst HG0.out tt
      have hgd := (HG0.out.add tt).dels (fresh D0 tt)
      have hag := again_size (first := ss) hgd (fun s => by rw [back_has HG0.out, HD0.out])
      rw [hsb] at hag
      have hg1 := HG0.out.add tt
      obtain ⟨D1, hD1⟩ : ∃ D1, addS D0 tt = D1 := ⟨_, rfl⟩
      obtain ⟨D2, hD2⟩ : ∃ D2, delS D1 (fresh D0 tt) = D2 := ⟨_, rfl⟩
      rw [hD1] at hsa hg1
      rw [hD1, hD2] at hsb hlb hgd hag
      obtain ⟨F, hF⟩ : ∃ F, fresh D0 tt = F := ⟨_, rfl⟩
      rw [hF] at hr6 hfl hf9 hD2 ⊢
      have hsd0 : Maps.size D0 ≤ 300 := by omega
      have hsd1 : Maps.size D1 ≤ 600 := by have := Hm.out; omega
      have HD1 := Lib.hid hD1; have HD2 := Lib.hid hD2; have HR6 := Lib.hid hr6; have HA6 := Lib.hid hA6; have HF9 := Lib.hid hf9; have HSB := Lib.hid hsb; have HLB := Lib.hid hlb; have HGD := Lib.hid hgd; have HAG := Lib.hid hag; have HG1 := Lib.hid hg1; have HSA := Lib.hid hsa
      clear hD1 hD2 hF hr6 hA6 hf9 hsb hlb hgd hag hg1 hsa hall HO
      go_wp2_with fail
      refine (list_any _ _ D0 HG0.out (by omega) wr HSr.out).mono ?_
      rintro e w4 ⟨A8, c8, rfl, hr8, hA8, hb4⟩
      have HS4 := Lib.hid (HSr.out.below hb4 HSr.out.lt HSr.out.ltb)
      have HB4 := Lib.hid (HBr.out.trans (hb4.mono HBr.out.size))
      have HR64 := Lib.hid ((HR6.out.below hb4).more hb4.size)
      have HR8 := Lib.hid hr8; have HA8 := Lib.hid hA8
      have hz4 := hb4.size
      clear hr8 hA8 hb4 HR6
      go_wp2_with fail
      refine (len_any _ _ D0 w4 HS4.out).mono ?_
      rintro e w5 ⟨rfl, rfl⟩
      go_wp2_with fail
      refine (H4 _ _ D0 w4 HS4.out HG0.out (by omega) HB4.out (by omega)).out.mono ?_
      rintro e w5 ⟨rfl, hS5, hm5⟩
      rw [HD1.out] at hS5 ⊢
      have HS5 := Lib.hid hS5
      have HB5 := Lib.hid (HB4.out.trans (hm5.below (fun j hj => by simp at hj; omega) HB4.out.size))
      have HB5' : Hid (Below w.heap.size w w5) := by show Below _ _ _; exact HB4.out.trans (hm5.below (fun j hj => by simp at hj; omega) HB4.out.size)
      have HR65 := Lib.hid (HR64.out.apart (fun ad e => ⟨by have := (HA6.out ad e).1; simp; omega, by have := (HA6.out ad e).2; omega⟩) hm5 hm5.size)
      have HR85 := Lib.hid (HR8.out.apart (fun ad e => ⟨by have := (HA8.out ad e).1; simp; omega, (HA8.out ad e).2⟩) hm5 hm5.size)
      have hz5 := hm5.size
      clear hS5 hm5 HR64 HR8 HB5
      go_wp2_with fail
      refine (len_any _ _ D1 w5 HS5.out).mono ?_
      rintro e w6 ⟨rfl, rfl⟩
      go_wp2_with fail
      refine (delset_any _ _ D1 F A6 c6 w5 HS5.out HG1.out (by omega) (by omega) HR65.out (fun _ ad e => ⟨by have := (HA6.out ad e).1; omega, by have := (HA6.out ad e).2; omega⟩) HF9.out).mono ?_
      rintro e w6 ⟨rfl, hS6, hm6⟩
      rw [HD2.out] at hS6 ⊢
      rw [HSB.out]
      have HS6 := Lib.hid hS6
      have HB6 := Lib.hid (HB5'.out.trans (hm6.below (fun j hj => by simp at hj; omega) HB5'.out.size))
      have HR86 := Lib.hid (HR85.out.apart (fun ad e => ⟨by have := (HA8.out ad e).1; simp; omega, by have := (HA8.out ad e).2; omega⟩) hm6 hm6.size)
      have hz6 := hm6.size
      clear hS6 hm6 HR65 HR85
      go_wp2_with fail
      refine (alive2_any w6).mono ?_
      rintro e w7 ⟨rfl, hb7⟩
      have HS7 := Lib.hid (HS6.out.below hb7 HS6.out.lt HS6.out.ltb)
      have HR87 := Lib.hid ((HR86.out.below hb7).more hb7.size)
      have HB7 := Lib.hid (HB6.out.trans (hb7.mono HB6.out.size))
      have hz7 := hb7.size
      clear hb7 HR86
      have hsaO := HSA.out
      go_wp2_with fail
      refine (list_any _ _ D2 HGD.out (by have := HSB.out; omega) w7 HS7.out).mono ?_
      rintro e w8 ⟨A9, c9, rfl, hr9, hA9, hb8⟩
      rw [HLB.out] at hr9 ⊢
      have HS8 := Lib.hid (HS7.out.below hb8 HS7.out.lt HS7.out.ltb)
      have HR88 := Lib.hid ((HR87.out.below hb8).more hb8.size)
      have HR9 := Lib.hid hr9
      have HB8 := Lib.hid (HB7.out.trans (hb8.mono HB7.out.size))
      have hz8 := hb8.size
      clear hb8 hr9 hA9 HR87
      have hll := lstS_len HG0.out
      have hsm := same_any (lstS D0) (lstS D0) A9 A8 c9 c8 w8.heap.size w8 HR9.out HR88.out (by omega) (by omega)
      rw [show sameB (lstS D0) (lstS D0) = true from by unfold sameB; simp] at hsm
      have HSM := Lib.hid hsm
      clear hsm hll
      go_wp2_with fail
      refine HSM.out.mono ?_
      rintro e w9 ⟨rfl, q9, rfl⟩
      go_wp2_with fail
      refine (H5 _ _ D2 (w8.drewN q9) HS8.out HGD.out (by have := HSB.out; omega) (drewN_below HB8.out q9) (by omega)).out.mono ?_
      rintro e w10 ⟨rfl, hS10, hm10⟩
      rw [HAG.out, HSB.out]
      have HB10 := Lib.hid ((drewN_below HB8.out q9).trans (hm10.below (fun j hj => by simp at hj; omega) (drewN_below HB8.out q9).size))
      clear hS10 hm10
      go_wp2
      go_ret
      exact ⟨rfl, HB10.out⟩
end Go.Proofs.Ytlniafpbkhkkaaa
