/-
  slices.DeleteFunc at accounts.
  Conditions: the function that is handed in changes nothing that lies.
-/
import Derived.Test.YtnpkplegeddhcaaRefDel
import Derived.Test.YtnpkplegeddhcaaRef6C
namespace Go.Proofs.Ytnpkplegeddhcaa
open Go.RowKit Go.Maps

theorem rows2_at {w : World} {g : Nat} {cs : Array Value} {l : List Account} (h : w.heap[g]? = some (.cells cs 40 (0, 0))) (hr : Rows2 cs 0 l) : RowsAt w w.heap.size (some ⟨g, 0, none⟩) 2 l := by
  refine ⟨fun _ => ⟨_, rfl, Blk.lt (t := 40) h, fun k x hx j v hv => ?_⟩⟩
  obtain ⟨a, b⟩ := hr k x hx
  rw [Nat.zero_add] at a b
  rw [add_of_add, Addr.add_lit, Nat.zero_add, Lib.cell_of_heap h]
  rcases j with _ | _ | j
  · obtain rfl : Value.string x.name = v := by simpa [Kd.val, Value.cells] using hv
    exact a
  · obtain rfl : Value.string x.party = v := by simpa [Kd.val, Value.cells] using hv
    exact b
  · simp [Kd.val, Value.cells] at hv
theorem filter_step {l : List Account} {del : Account → Bool} {j : Nat} {x : Account} (hx : l[j]? = some x) : (l.take (j + 1)).filter (fun y => !del y) = (l.take j).filter (fun y => !del y) ++ (if del x then [] else [x]) := by
  rw [take_snoc hx, List.filter_append]
  cases h : del x <;> simp [h]
theorem filter_all {l : List Account} {del : Account → Bool} (h : ∀ y ∈ l, del y = false) : l.filter (fun y => !del y) = l := by
  rw [List.filter_eq_self]
  intro y hy
  rw [h y hy]
  rfl
theorem drop_head {l : List Account} {j : Nat} {x : Account} (hx : l[j]? = some x) : (l.drop j)[0]? = some x := by rw [List.getElem?_drop]; exact hx

/-- The rest of a list of accounts, cleared. -/
theorem clear_accounts (w : World) (g o n c : Nat) (hn : 0 < n) (hc : ∀ t, t < n * 2 → (w.cell? ⟨g, o + t, none⟩).isSome = true) (hf : ∀ t, t < n * 2 → w.frozen? ⟨g, o + t, none⟩ = false) :
    ∃ zs : List Value, zs.length = n * 2 ∧ ∀ ty, (Builtin.clear_ #[34] ty #[.slice (some ⟨g, o, none⟩) n c]).run Try.prog w = .ok (.tuple #[]) (w.setCells g o zs) := by
  obtain ⟨zs, hzs⟩ : ∃ zs, (Builtin.zeroCells (Value.agg #[.string ⟨#[]⟩, .string ⟨#[]⟩]).cells n).toList = zs := ⟨_, rfl⟩
  have hlen : zs.length = n * 2 := by rw [← hzs]; simp [Builtin.zeroCells, Value.cells]
  have hone : ∀ v ∈ zs, v.oneCell' = true := by
    rw [← hzs]
    intro v hv
    simp only [Builtin.zeroCells, Array.toList_map, List.mem_map] at hv
    obtain ⟨i, _, rfl⟩ := hv
    have h2 : (Value.agg #[.string ⟨#[]⟩, .string ⟨#[]⟩]).cells.size = 2 := rfl
    rw [h2]
    have : i % 2 = 0 ∨ i % 2 = 1 := by omega
    rcases this with h | h <;> rw [h] <;> rfl
  have hst := run_storeCells_cells (P := Try.prog) g o zs 0 w (by rw [hlen]; simpa using hc) (by rw [hlen]; simpa using hf) hone
  simp only [Nat.add_zero] at hst
  obtain ⟨m, rfl⟩ : ∃ m, n = m + 1 := ⟨n - 1, by omega⟩
  refine ⟨zs, hlen, fun ty => ?_⟩
  simp [Builtin.clear_, run_underlying Try.underlying34, hzs, hst]
/-- Cells that are written from an offset on: what stands ahead of it stays. -/
theorem set_blk {g : Nat} : ∀ (zs : List Value) (o : Nat) (w : World) (cs : Array Value), w.heap[g]? = some (.cells cs 40 (0, 0)) → ∃ cs', (w.setCells g o zs).heap[g]? = some (.cells cs' 40 (0, 0)) ∧ (∀ t, t < o → cs'[t]? = cs[t]?) ∧ Mv [g] [g] w (w.setCells g o zs)
  | [], o, w, cs, h => ⟨cs, h, fun _ _ => rfl, Mv.refl _ _⟩
  | z :: zs, o, w, cs, h => by
    obtain ⟨cs', h1, h2, h3⟩ := set_blk zs (o + 1) _ _ (Blk.set_ (show Blk w g 40 _ from h) o z)
    refine ⟨cs', h1, fun t ht => (h2 t (by omega)).trans (get_set_ne (by omega)), ?_⟩
    exact ((Mv.refl [g] w).set_ (g := g) (by simp) o z).trans h3
set_option maxHeartbeats 4000000 in
set_option maxRecDepth 10000 in
theorem delete_any (q : Nat) (del : Account → Bool) (C : World → Prop) (HT : Tells q del C) (l : List Account) (g cap : Nat) (cur : Array Value) (w : World) (hb : w.heap[g]? = some (.cells cur 40 (0, 0))) (hcs : cur.size = cap * 2) (hr : Rows2 cur 0 l) (hlc : l.length ≤ cap) (hl : l.length ≤ 1000000) (_hcap : cap ≤ 9223372036854775807) (hC : ∀ w', Mv [g] [g] w w' → C w') :
    Calls Try.prog 42 #[.slice (some ⟨g, 0, none⟩) l.length cap, .func (.func 44) #[] #[.pointer (some ⟨q, 0, none⟩)]] w fun e w' =>
      ∃ cs', e = .returned (.slice (some ⟨g, 0, none⟩) (l.filter (fun y => !del y)).length cap) ∧ w'.heap[g]? = some (.cells cs' 40 (0, 0)) ∧ Rows2 cs' 0 (l.filter (fun y => !del y)) ∧ Mv [g] [g] w w' := by
  have hgl : g < w.heap.size := Blk.lt (t := 40) hb
  have HI := Lib.hid (index_any q del C HT l (some ⟨g, 0, none⟩) cap w (rows2_at hb hr) (fun w' h => hC w' (Mv.of_new h (fun _ h => .inl h))) hl)
  obtain ⟨n, hn⟩ : ∃ n, l.length = n := ⟨_, rfl⟩
  rw [hn] at hl HI hlc ⊢
  obtain ⟨ad, had⟩ : ∃ ad : Addr, (⟨g, 0, none⟩ : Addr) = ad := ⟨_, rfl⟩
  have HAD := Lib.hid had
  rw [had] at HI ⊢
  have Hn := Lib.hid hn
  have HR := Lib.hid hr
  have HBK := Lib.hid hb
  have HCS := Lib.hid hcs
  have HCC := Lib.hid hC
  have HTT := Lib.hid HT
  clear hn hr hb hcs hC HT had
  go_enter Try.func42, Try.ntmps42
  go_wp2_with fail
  refine HI.out.mono ?_
  rintro e w1 ⟨z, rfl, hz, hb1⟩
  have HB1 := Lib.hid hb1
  have HBK1 := Lib.hid ((hb1.block g hgl).trans HBK.out)
  clear hb1 HI
  rcases hz with ⟨rfl, hall⟩ | ⟨k0, x0, rfl, hx0, hd0, hk0⟩
  · have hf := filter_all hall
    have HF := Lib.hid hf
    have hfl : (l.filter (fun y => !del y)).length = n := by rw [hf]; exact Hn.out
    have HFL := Lib.hid hfl
    clear hf hfl hall
    go_wp2
    go_ret
    rw [HFL.out, HF.out]
    exact ⟨cur, rfl, HBK1.out, HR.out, Mv.of_new HB1.out (fun _ h => .inl h)⟩
  · have hkn : k0 < n := by rw [← Hn.out]; exact (List.getElem?_eq_some_iff.1 hx0).1
    have hz1 : ((k0 : Int) == -1) = false := by
      rw [beq_eq_false_iff_ne]
      omega
    have hpre : (l.take (k0 + 1)).filter (fun y => !del y) = l.take k0 := by
      rw [filter_step hx0, hd0, if_pos rfl, List.append_nil, filter_all hk0]
    have hst : Rows2 cur 0 ((l.take (k0 + 1)).filter (fun y => !del y)) ∧ Rows2 cur (k0 + 1) (l.drop (k0 + 1)) ∧ k0 = ((l.take (k0 + 1)).filter (fun y => !del y)).length := by
      rw [hpre]
      refine ⟨fun k x hx => ?_, fun k x hx => ?_, ?_⟩
      · rw [List.getElem?_take] at hx
        split at hx
        · exact HR.out k x hx
        · cases hx
      · rw [List.getElem?_drop] at hx
        have h := HR.out (k0 + 1 + k) x hx
        rw [Nat.zero_add] at h
        exact h
      · rw [List.length_take, Hn.out]; omega
    have HST := Lib.hid hst
    clear hst hpre hx0 hd0 hk0
    go_wp2
    go_loopw [5, 6] (fun u v wr => ∃ (i j : Nat) (cs : Array Value), i < j ∧ j ≤ n ∧ u = .int .i64 i ∧ v = .int .i64 j ∧ Hid (i = ((l.take j).filter (fun y => !del y)).length) ∧ Hid (wr.heap[g]? = some (.cells cs 40 (0, 0))) ∧ Hid (cs.size = cap * 2) ∧ Hid (Rows2 cs 0 ((l.take j).filter (fun y => !del y))) ∧ Hid (Rows2 cs j (l.drop j)) ∧ Hid (Mv [g] [g] w wr)) (fun _ v _ => n - (intOf v).toNat)
    case atStart => exact ⟨k0, k0 + 1, cur, Nat.lt_succ_self _, hkn, rfl, by go_num, HST.out.2.2, HBK1.out, HCS.out, HST.out.1, HST.out.2.1, Mv.of_new HB1.out (fun _ h => .inl h)⟩
    case round =>
      obtain ⟨i, j, cs, hij, hjn, rfl, rfl, HI, HK, HZ, HA, HT, HM⟩ := hrel
      clear HBK1 HST HB1
      by_cases hlt : j < n
      · obtain ⟨x, hxj⟩ : ∃ x, l[j]? = some x := ⟨_, List.getElem?_eq_getElem (by rw [Hn.out]; exact hlt)⟩
        have h0 := HT.out 0 x (drop_head hxj)
        rw [Nat.add_zero] at h0
        have e0 : wr.cell? (ad.add (j * 2)) = some (.string x.name) := by rw [← HAD.out, Addr.add_lit, Nat.zero_add, Lib.cell_of_heap HK.out]; exact h0.1
        have e1 : wr.cell? ⟨(ad.add (j * 2)).block, (ad.add (j * 2)).off + 1, none⟩ = some (.string x.party) := by rw [← HAD.out, Addr.add_lit, Nat.zero_add]; show wr.cell? ⟨g, j * 2 + 1, none⟩ = _; rw [Lib.cell_of_heap HK.out]; exact h0.2
        have hb0 : Below wr.heap.size wr (wr.alloc (.cells #[.string x.name, .string x.party] 40)) := (Below.refl _ _).alloc (Nat.le_refl _) _
        have C1 := HTT.out x _ (HCC.out _ (HM.out.alloc (.cells #[.string x.name, .string x.party] 40)))
        have hgr : g < wr.heap.size := Blk.lt (t := 40) HK.out
        have hK1 := (hb0.block g hgr).trans HK.out
        have hM1 := HM.out.alloc (.cells #[.string x.name, .string x.party] 40)
        have hc1 : (wr.alloc (.cells #[.string x.name, .string x.party] 40)).heap[wr.heap.size]? = some (.cells #[.string x.name, .string x.party] 40 (0, 0)) := heap_alloc_new _ _
        obtain ⟨W1, hW1⟩ : ∃ W1, wr.alloc (.cells #[.string x.name, .string x.party] 40) = W1 := ⟨_, rfl⟩
        obtain ⟨c0, hc0⟩ : ∃ c0, wr.heap.size = c0 := ⟨_, rfl⟩
        rw [hW1] at C1 hK1 hM1 hc1
        rw [hc0] at hc1 hgr
        have hgc : g ≠ c0 := Nat.ne_of_lt hgr
        have k0' : W1.cell? ⟨c0, 0, none⟩ = some (.string x.name) := by rw [Lib.cell_of_heap hc1]; rfl
        have k1' : W1.cell? ⟨c0, 1, none⟩ = some (.string x.party) := by rw [Lib.cell_of_heap hc1]; rfl
        have HW1 := Lib.hid hW1; have HC0 := Lib.hid hc0; have HK1 := Lib.hid hK1; have HM1 := Lib.hid hM1; have HC1 := Lib.hid hc1; have HXJ := Lib.hid hxj
        cases hd : del x
        · rw [hd] at C1
          have HD := Lib.hid hd
          clear hW1 hc0 hK1 hM1 hc1 hb0 hxj hd h0
          go_wp2_with fail
          rw [HW1.out, HC0.out]
          refine C1.mono ?_
          rintro e w2 ⟨rfl, hb2⟩
          have hg1 : g < W1.heap.size := Blk.lt (t := 40) HK1.out
          have HK2 := Lib.hid ((hb2.block g hg1).trans HK1.out)
          have HM2 := Lib.hid (HM1.out.trans (Mv.of_new (S' := [g]) hb2 (fun _ h => .inl h)))
          have k20 : w2.cell? ⟨c0, 0, none⟩ = some (.string x.name) := (hb2.cell (p := ⟨c0, 0, none⟩) (Blk.lt (t := 40) HC1.out)).trans k0'
          have k21 : w2.cell? ⟨c0, 1, none⟩ = some (.string x.party) := (hb2.cell (p := ⟨c0, 1, none⟩) (Blk.lt (t := 40) HC1.out)).trans k1'
          have hsz : i * 2 + 1 < cs.size := by have := HZ.out; omega
          have o0 : ∃ u, w2.cell? (ad.add (i * 2)) = some u := by rw [← HAD.out, Addr.add_lit, Nat.zero_add, Lib.cell_of_heap HK2.out]; exact ⟨_, Array.getElem?_eq_getElem (by omega)⟩
          have o1 : ∃ u, w2.cell? ⟨(ad.add (i * 2)).block, (ad.add (i * 2)).off + 1, none⟩ = some u := by rw [← HAD.out, Addr.add_lit, Nat.zero_add]; show ∃ u, w2.cell? ⟨g, i * 2 + 1, none⟩ = some u; rw [Lib.cell_of_heap HK2.out]; exact ⟨_, Array.getElem?_eq_getElem hsz⟩
          obtain ⟨v0, o0⟩ := o0
          have hadd : ad.add (i * 2) = ⟨g, i * 2, none⟩ := by rw [← HAD.out, Addr.add_lit, Nat.zero_add]
          have hK3 : (w2.setCell (ad.add (i * 2)) (.string x.name)).heap[g]? = some (.cells (cs.setIfInBounds (i * 2) (.string x.name)) 40 (0, 0)) := by rw [hadd]; exact Blk.set_ (show Blk w2 g 40 _ from HK2.out) _ _
          have o1 : ∃ u, (w2.setCell (ad.add (i * 2)) (.string x.name)).cell? ⟨(ad.add (i * 2)).block, (ad.add (i * 2)).off + 1, none⟩ = some u := by
            rw [show (⟨(ad.add (i * 2)).block, (ad.add (i * 2)).off + 1, none⟩ : Addr) = ⟨g, i * 2 + 1, none⟩ by rw [hadd], Lib.cell_of_heap hK3]
            exact ⟨_, Array.getElem?_eq_getElem (by simpa using hsz)⟩
          obtain ⟨v1, o1⟩ := o1
          have f0 : w2.frozen? (ad.add (i * 2)) = false := by rw [hadd]; exact Lib.frozen_of_heap HK2.out _
          have f1 : (w2.setCell (ad.add (i * 2)) (.string x.name)).frozen? ⟨(ad.add (i * 2)).block, (ad.add (i * 2)).off + 1, none⟩ = false := by
            rw [show (⟨(ad.add (i * 2)).block, (ad.add (i * 2)).off + 1, none⟩ : Addr) = ⟨g, i * 2 + 1, none⟩ by rw [hadd]]
            exact Lib.frozen_of_heap hK3 _
          have f1' : w2.frozen? ⟨(ad.add (i * 2)).block, (ad.add (i * 2)).off + 1, none⟩ = false := by
            rw [show (⟨(ad.add (i * 2)).block, (ad.add (i * 2)).off + 1, none⟩ : Addr) = ⟨g, i * 2 + 1, none⟩ by rw [hadd]]
            exact Lib.frozen_of_heap HK2.out _
          have HFIN : Hid (∀ W, W = (w2.setCell (ad.add (i * 2)) (.string x.name)).setCell ⟨(ad.add (i * 2)).block, (ad.add (i * 2)).off + 1, none⟩ (.string x.party) → W.heap[g]? = some (.cells ((cs.setIfInBounds (i * 2) (.string x.name)).setIfInBounds (i * 2 + 1) (.string x.party)) 40 (0, 0)) ∧ Mv [g] [g] w W) := by
            intro W hW
            rw [hW, show (⟨(ad.add (i * 2)).block, (ad.add (i * 2)).off + 1, none⟩ : Addr) = ⟨g, i * 2 + 1, none⟩ by rw [hadd]]
            refine ⟨Blk.set_ (show Blk _ g 40 _ from hK3) _ _, ?_⟩
            rw [hadd]
            exact (HM2.out.set_ (g := g) (by simp) _ _).set_ (g := g) (by simp) _ _
          have hlen1 : ((l.take (j + 1)).filter (fun y => !del y)) = (l.take j).filter (fun y => !del y) ++ [x] := by rw [filter_step HXJ.out, HD.out]; rfl
          have HLEN1 := Lib.hid hlen1
          clear hb2 C1 e0 e1 k0' k1' HW1 HC0 HK1 HM1 HC1 hK3 hlen1 hadd
          go_wp2
          go_roundw
          case rel =>
            obtain ⟨hk5, hm5⟩ := HFIN.out _ rfl
            refine ⟨i + 1, j + 1, _, by omega, hlt, by go_num, by go_num, ?_, hk5, ?_, ?_, ?_, hm5⟩
            · show i + 1 = _
              rw [HLEN1.out, List.length_append, ← HI.out]; rfl
            · show Array.size _ = _
              rw [Array.size_setIfInBounds, Array.size_setIfInBounds]; exact HZ.out
            · show Rows2 _ _ _
              rw [HLEN1.out]
              exact HA.out.keep HI.out.symm x hsz
            · exact Rows2.drop (HT.out.tail hij)
          case measure => simp [intOf]; omega
        · rw [hd] at C1
          have hlen1 : ((l.take (j + 1)).filter (fun y => !del y)) = (l.take j).filter (fun y => !del y) := by rw [filter_step hxj, hd, if_pos rfl, List.append_nil]
          have HLEN1 := Lib.hid hlen1
          clear hW1 hc0 hK1 hM1 hc1 hb0 hxj hd h0 hlen1
          go_wp2_with fail
          rw [HW1.out, HC0.out]
          refine C1.mono ?_
          rintro e w2 ⟨rfl, hb2⟩
          have hg1 : g < W1.heap.size := Blk.lt (t := 40) HK1.out
          have HK2 := Lib.hid ((hb2.block g hg1).trans HK1.out)
          have HM2 := Lib.hid (HM1.out.trans (Mv.of_new (S' := [g]) hb2 (fun _ h => .inl h)))
          clear hb2 C1 e0 e1 k0' k1' HW1 HC0 HK1 HM1 HC1
          go_wp2
          go_roundw
          case rel =>
            refine ⟨i, j + 1, cs, by omega, hlt, rfl, by go_num, ?_, HK2.out, HZ.out, ?_, Rows2.drop HT.out, HM2.out⟩
            · show i = _
              rw [HLEN1.out]; exact HI.out
            · show Rows2 _ _ _
              rw [HLEN1.out]; exact HA.out
          case measure => simp [intOf]; omega
      · obtain rfl : j = n := by omega
        have hlf : (l.take j) = l := List.take_of_length_le (by rw [Hn.out]; exact Nat.le_refl _)
        rw [hlf] at HI HA
        have hin : i < j := by omega
        have haddi : ad.add (i * 2) = ⟨g, i * 2, none⟩ := by rw [← HAD.out, Addr.add_lit, Nat.zero_add]
        obtain ⟨zs, hzs, hcl⟩ := clear_accounts wr g (i * 2) (j - i) (cap - i) (by omega)
          (fun t ht => by rw [Lib.cell_of_heap HK.out, Array.getElem?_eq_getElem (by have := HZ.out; omega)]; rfl) (fun t _ => Lib.frozen_of_heap HK.out _)
        have hcl2 : ∀ ty, (Builtin.clear_ #[34] ty #[.slice (some (ad.add (i * 2))) (j - i) (cap - i)]).run Try.prog wr = .ok (.tuple #[]) (wr.setCells g (i * 2) zs) := by rw [haddi]; exact hcl
        obtain ⟨cs2, hk2, hkeep, hm2⟩ := set_blk (g := g) zs (i * 2) wr cs HK.out
        have hr2 : Rows2 cs2 0 (l.filter (fun y => !del y)) := HA.out.same (fun t ht => hkeep t (by have := HI.out; omega))
        have HR2 := Lib.hid hr2
        have HK2 := Lib.hid hk2
        have HM2 := Lib.hid (HM.out.trans hm2)
        obtain ⟨W2, hW2⟩ : ∃ W2, wr.setCells g (i * 2) zs = W2 := ⟨_, rfl⟩
        rw [hW2] at hcl2 HK2 HM2
        clear hcl hk2 hkeep hm2 hr2 hW2 hzs haddi
        go_wp2
        go_ret
        rw [← HI.out]
        exact ⟨cs2, rfl, HK2.out, HR2.out, HM2.out⟩
theorem delete_nil (q : Nat) (del : Account → Bool) (C : World → Prop) (HT : Tells q del C) (cap : Nat) (w : World) (hC : ∀ w', Below w.heap.size w w' → C w') :
    Calls Try.prog 42 #[.slice none 0 cap, .func (.func 44) #[] #[.pointer (some ⟨q, 0, none⟩)]] w fun e w' => e = .returned (.slice none 0 cap) ∧ Below w.heap.size w w' := by
  have HI := Lib.hid (index_any q del C HT [] none cap w ⟨fun h => absurd h (by simp)⟩ hC (by simp))
  go_enter Try.func42, Try.ntmps42
  go_wp2_with fail
  refine HI.out.mono ?_
  rintro e w1 ⟨z, rfl, hz, hb1⟩
  have HB1 := Lib.hid hb1
  rcases hz with ⟨rfl, _⟩ | ⟨k0, x0, _, hx0, _⟩
  · clear hb1 HI
    go_wp2
    go_ret
    exact ⟨rfl, HB1.out⟩
  · simp at hx0
/-- The accounts of a party. -/
def ownRows (st : Rf) (p : ByteArray) : List Account := (rowsOf Account st.a).filter (fun y => !delB p y)
set_option maxHeartbeats 4000000 in
set_option maxRecDepth 10000 in
theorem accounts_any (r : Nat) (st : Rf) (hok : st.Ok) (p : ByteArray) (w : World) (h : RefAt r st w) :
    Calls Try.prog 15 #[.pointer (some ⟨r, 0, none⟩), .string p] w fun e w' => ∃ (A : Option Addr) (cap : Nat), e = .returned (.slice A (ownRows st p).length cap) ∧ RowsAt w' w'.heap.size A 2 (ownRows st p) ∧ Below w.heap.size w w' := by
  obtain ⟨W1, hW1⟩ : ∃ W1, w.alloc (.cells #[.string p] 9) = W1 := ⟨_, rfl⟩
  have hb1 : Below w.heap.size w W1 := by rw [← hW1]; exact (Below.refl _ _).alloc (Nat.le_refl _) _
  have hz : w.heap.size < W1.heap.size := by rw [← hW1]; simp
  have hq : W1.cell? ⟨w.heap.size, 0, none⟩ = some (.string p) := by rw [← hW1, Lib.cell_of_heap (heap_alloc_new w _)]; rfl
  have h1 := h.below hb1
  obtain ⟨b, hcell, hown, _⟩ := h1.ownC
  have hlen : (rowsOf Account st.a).length ≤ 20 := by rw [rows_len hok.ga]; exact hok.na
  have HS := Lib.hid (sortedC_any (.map (some b)) st.a hok.ga hok.na W1 (.inr ⟨b, rfl, hown⟩))
  have HW1 := Lib.hid hW1; have HB1 := Lib.hid hb1; have HQ := Lib.hid hq; have HZ := Lib.hid hz
  obtain ⟨q, hqq⟩ : ∃ q, w.heap.size = q := ⟨_, rfl⟩
  have HQQ := Lib.hid hqq
  have HTL : Hid (Tells q (delB p) (fun w' => w'.cell? ⟨q, 0, none⟩ = some (.string p) ∧ q < w'.heap.size)) := fun x w1 hc => acc1_any q p x w1 hc.1 hc.2
  rw [hqq] at HQ HZ
  have hrl := h.lt
  have hcell0 : w.cell? ⟨r, 2, none⟩ = some (.map (some b)) := by rw [← hcell, ← hW1]; exact (World.cell?_alloc_lt _ _ ⟨r, 2, none⟩ hrl).symm
  clear hW1 hb1 hz hq h1 hown h hqq hcell
  have hmf := makes
  go_enter Try.func15, Try.ntmps15
  go_wp2_with fail
  rw [HW1.out]
  refine HS.out.mono ?_
  rintro e w2 ⟨u, rfl, ho, hb2⟩
  have hc2 : w2.cell? ⟨q, 0, none⟩ = some (.string p) ∧ q < w2.heap.size := ⟨(hb2.cell (p := ⟨q, 0, none⟩) HZ.out).trans HQ.out, Nat.lt_of_lt_of_le HZ.out hb2.size⟩
  have HB2 := Lib.hid (HB1.out.trans (hb2.mono HB1.out.size))
  have HSZ := Lib.hid hb2.size
  obtain ⟨l, hl⟩ : ∃ l, rowsOf Account st.a = l := ⟨_, rfl⟩
  have hor : ownRows st p = l.filter (fun y => !delB p y) := by rw [← hl]; rfl
  have HOR := Lib.hid hor
  rw [hl] at ho hlen
  clear HS HW1 hl hor hb2
  have hx := ho.2
  rcases hx with ⟨rfl, hn0⟩ | ⟨g, cap, cur, rfl, hbg, hh, hnc, hcm, hcs, hcur⟩
  · obtain rfl : l = [] := List.eq_nil_of_length_eq_zero hn0
    have HD := Lib.hid (delete_nil q (delB p) _ HTL.out 0 w2 (fun w' hb => ⟨(hb.cell (p := ⟨q, 0, none⟩) hc2.2).trans hc2.1, Nat.lt_of_lt_of_le hc2.2 hb.size⟩))
    clear ho hc2 hn0
    go_wp2_with fail
    rw [HQQ.out]
    refine HD.out.mono ?_
    rintro e w3 ⟨rfl, hb3⟩
    have HB3 := Lib.hid (HB2.out.trans (hb3.mono HB2.out.size))
    clear hb3
    go_wp2
    go_ret
    rw [HOR.out]
    exact ⟨none, 0, rfl, ⟨fun h => absurd h (by simp)⟩, HB3.out⟩
  · have hr : Rows2 cur 0 l := by
      intro k x hx
      have hcell : ∀ (j : Nat) (v : Value), (Kd.val x).cells[j]? = some v → cur[(0 + k) * 2 + j]? = some v := by
        intro j v hv
        have h := cells_at (N := 2) (fun (y : Account) _ => rfl) hx hv
        rw [← hcur, List.getElem?_take] at h
        split at h
        · rw [Nat.zero_add]; simpa using h
        · cases h
      exact ⟨hcell 0 _ rfl, hcell 1 _ rfl⟩
    have hgq : q ≠ g := by
      intro e
      have := HZ.out
      omega
    have HD := Lib.hid (delete_any q (delB p) _ HTL.out l g cap cur w2 hh hcs hr hnc (by omega) (by unfold maxLen at hcm; exact hcm) (fun w' hm => ⟨by
      have h := hm.block q hc2.2 (by simpa using hgq)
      have h2 := hc2.1
      simp only [World.cell?] at h2 ⊢
      rw [h]
      exact h2, Nat.lt_of_lt_of_le hc2.2 hm.size⟩))
    have hgB : w.heap.size ≤ g := Nat.le_trans HB1.out.size hbg
    have HGB := Lib.hid hgB
    obtain ⟨n, hn⟩ : ∃ n, l.length = n := ⟨_, rfl⟩
    rw [hn] at HD ⊢
    clear ho hh hr hcs hcur hc2 hnc hcm hgq hbg hn hgB
    go_wp2_with fail
    rw [HQQ.out]
    refine HD.out.mono ?_
    rintro e w3 ⟨cs', rfl, hk3, hr3, hm3⟩
    have HR3 := Lib.hid (rows2_at hk3 hr3)
    have HB3 := Lib.hid (HB2.out.trans (hm3.below (by simpa using HGB.out) HB2.out.size))
    clear hk3 hr3 hm3
    go_wp2
    go_ret
    rw [HOR.out]
    exact ⟨_, cap, rfl, HR3.out, HB3.out⟩
end Go.Proofs.Ytnpkplegeddhcaa
