/-
  Sets of texts, with or without a map of their own: Has, Len, Add, Del, List as contracts; the law's has.
  Conditions: as each lemma says.
-/
import Derived.Test.YtlniafpbkhkkaaaGreatNameOwn
import Derived.Test.YtlniafpbkhkkaaaGreatName5b
import Derived.Test.YtlniafpbkhkkaaaGreatRsort
import Derived.Shelf.SlIter.Nil
namespace Go.Proofs.YtlniafpbkhkkaaaGreat
open Go.RowKit Go.Maps Go.Sort Go.Shelf
set_option maxRecDepth 100000

/-- A set in block c, over the blocks S. -/
def SetF (c : Nat) (S : List Nat) (D : DataW Unit) (w : World) : Prop :=
  (∃ b, S = [c, b] ∧ SetAt c b D w) ∨ (S = [c] ∧ D = .map [] ∧ w.heap[c]? = some (.cells #[.map none] 60 (0, 0)))
section
variable {c : Nat} {S : List Nat} {D : DataW Unit} {w w' : World}
theorem SetF.keep (h : SetF c S D w) (hb : ∀ k ∈ S, w'.heap[k]? = w.heap[k]?) : SetF c S D w' := by
  rcases h with ⟨b, rfl, h⟩ | ⟨rfl, rfl, h⟩
  · exact .inl ⟨b, rfl, h.keep (hb c (by simp)) (hb b (by simp))⟩
  · exact .inr ⟨rfl, rfl, (hb c (by simp)).trans h⟩
theorem SetF.there (h : SetF c S D w) : ∀ k ∈ S, k < w.heap.size := by
  intro k hk
  rcases h with ⟨b, rfl, h⟩ | ⟨rfl, rfl, h⟩
  · simp only [List.mem_cons, List.not_mem_nil, or_false] at hk
    rcases hk with rfl | rfl
    · exact h.lt
    · exact h.ltb
  · obtain rfl : k = c := by simpa using hk
    exact Blk.lt (t := 60) h
theorem SetF.below (h : SetF c S D w) (hb : Below w.heap.size w w') : SetF c S D w' := h.keep fun k hk => hb.block k (h.there k hk)
theorem SetF.aside {T T' : List Nat} (h : SetF c S D w) (hm : Mv T T' w w') (ha : ∀ k ∈ S, k ∉ T) : SetF c S D w' := h.keep fun k hk => hm.block k (h.there k hk) (ha k hk)
theorem SetF.at_ (h : SetF c S D w) : c ∈ S := by
  rcases h with ⟨b, rfl, h⟩ | ⟨rfl, rfl, h⟩ <;> simp
end
theorem hasS_nil (s : ByteArray) : hasS (.map [] : DataW Unit) s = false := rfl
theorem check_str (n : Nat) (s : ByteArray) (W : World) : (Instr.checkKey true (n + 1) 9 (.string s)).run Tryz.prog W = .ok () W := by
  have h2 := run_underlying Tryz.underlying9
  rw [Instr.checkKey]
  simp [h2, Result.andThen]
theorem look_nil (s : ByteArray) (W : World) : (Instr.lookup 58 (.map none) (.string s) true).run Tryz.prog W = .ok (.tuple #[.agg #[], .bool false]) W := by
  have h1 := run_underlying Tryz.underlying58
  have h2 := run_underlying Tryz.underlying9
  have h3 := zeroU
  obtain ⟨M, hM⟩ : ∃ M : Nat, M = 10000 := ⟨_, rfl⟩
  have hc : (Instr.checkKey true M 9 (.string s)).run Tryz.prog W = .ok () W := by rw [hM]; exact check_str 9999 s W
  unfold Instr.lookup
  rw [← hM]
  clear hM
  simp [h1, h2, h3, hc, Instr.findKey, Instr.findNow, Result.andThen]
theorem has_zero (c : Nat) (s : ByteArray) (w : World) (h : w.heap[c]? = some (.cells #[.map none] 60 (0, 0))) :
    Calls Tryz.prog 23 #[.pointer (some ⟨c, 0, none⟩), .string s] w fun e w' => e = .returned (.bool false) ∧ Below w.heap.size w w' := by
  have hz := fun (w : World) => zeroU w
  have c0 : w.cell? ⟨c, 0, none⟩ = some (.map none) := by rw [Lib.cell_of_heap h]; rfl
  have hk := look_nil s
  clear h
  go_enter Tryz.func23, Tryz.ntmps23
  go_wp2
  go_ret
  exact ⟨rfl, (Below.refl _ _).alloc (Nat.le_refl _) _⟩
theorem hasF (c : Nat) (S : List Nat) (D : DataW Unit) (s : ByteArray) (hs : s.size ≤ 9223372036854775807) (w : World) (h : SetF c S D w) :
    Calls Tryz.prog 23 #[.pointer (some ⟨c, 0, none⟩), .string s] w fun e w' => e = .returned (.bool (hasS D s)) ∧ Below w.heap.size w w' := by
  rcases h with ⟨b, rfl, h⟩ | ⟨rfl, rfl, h⟩
  · exact has_any c b D s hs w h
  · exact has_zero c s w h
theorem len_zero (c : Nat) (w : World) (h : w.heap[c]? = some (.cells #[.map none] 60 (0, 0))) :
    Calls Tryz.prog 25 #[.pointer (some ⟨c, 0, none⟩)] w fun e w' => e = .returned (.int .i64 0) ∧ w = w' := by
  have c0 : w.cell? ⟨c, 0, none⟩ = some (.map none) := by rw [Lib.cell_of_heap h]; rfl
  clear h
  go_enter Tryz.func25, Tryz.ntmps25
  go_wp2
  go_ret
  exact ⟨rfl, rfl⟩
theorem lenF (c : Nat) (S : List Nat) (D : DataW Unit) (w : World) (h : SetF c S D w) :
    Calls Tryz.prog 25 #[.pointer (some ⟨c, 0, none⟩)] w fun e w' => e = .returned (.int .i64 (Maps.size D : Nat)) ∧ w = w' := by
  rcases h with ⟨b, rfl, h⟩ | ⟨rfl, rfl, h⟩
  · exact len_any c b D w h
  · exact len_zero c w h
theorem del_zero (c : Nat) (A : Option Addr) (n cp : Nat) (w : World) (h : w.heap[c]? = some (.cells #[.map none] 60 (0, 0))) :
    Calls Tryz.prog 22 #[.pointer (some ⟨c, 0, none⟩), .slice A n cp] w fun e w' => e = .returned (.int .i64 0) ∧ w = w' := by
  have H := Lib.hid h
  clear h
  go_enter Tryz.func22, Tryz.ntmps22
  go_wp2_with fail
  refine (len_zero c w H.out).mono ?_
  rintro e w1 ⟨rfl, rfl⟩
  go_wp2
  go_ret
  exact ⟨rfl, rfl⟩
theorem delF (c : Nat) (S : List Nat) (D : DataW Unit) (l : List ByteArray) (A : Option Addr) (cp : Nat) (w : World) (h : SetF c S D w) (hg : GoodS D) (hD : Maps.size D ≤ 1000000000) (hl : l.length ≤ 1000000000) (hr : Reads w w.heap.size 1 A l.length (strs l)) (hA : 0 < l.length → ∀ ad, A = some ad → ad.block ∉ S ∧ ad.block < w.heap.size)
    (hs : ∀ s ∈ l, s.size ≤ 281474976710656) :
    Calls Tryz.prog 22 #[.pointer (some ⟨c, 0, none⟩), .slice A l.length cp] w fun e w' => e = .returned (.int .i64 ((Maps.size D : Int) - (Maps.size (delS D l) : Int))) ∧ SetF c S (delS D l) w' ∧ Mv S S w w' := by
  rcases h with ⟨b, rfl, h⟩ | ⟨rfl, rfl, h⟩
  · refine (delset_any c b D l A cp w h hg hD hl hr (fun h ad e => ⟨fun e' => (hA h ad e).1 (by simp [e']), (hA h ad e).2⟩) hs).mono ?_
    rintro e w' ⟨he, h1, h2⟩
    refine ⟨he, .inl ⟨b, rfl, h1⟩, ⟨h2.os, h2.tape, h2.output, h2.size, fun k hk hn => h2.block k hk (fun e => hn (by simp at e; simp [e])), fun _ h => .inl h⟩⟩
  · refine (del_zero c A l.length cp w h).mono ?_
    rintro e w' ⟨rfl, rfl⟩
    rw [delS_none]
    exact ⟨rfl, .inr ⟨rfl, rfl, h⟩, Mv.refl _ _⟩
theorem addF (c : Nat) (S : List Nat) (D : DataW Unit) (l : List ByteArray) (A : Option Addr) (cp : Nat) (w : World) (h : SetF c S D w) (hg : GoodS D) (hD : Maps.size D + l.length ≤ 1000000000) (hr : Reads w w.heap.size 1 A l.length (strs l)) (hA : 0 < l.length → ∀ ad, A = some ad → ad.block ∉ S ∧ ad.block < w.heap.size)
    (hs : ∀ s ∈ l, s.size ≤ 281474976710656) :
    Calls Tryz.prog 21 #[.pointer (some ⟨c, 0, none⟩), .slice A l.length cp] w fun e w' => e = .returned (.int .i64 ((Maps.size (addS D l) : Int) - (Maps.size D : Int))) ∧ ∃ S', SetF c S' (addS D l) w' ∧ Mv S S' w w' := by
  rcases h with ⟨b, rfl, h⟩ | ⟨rfl, rfl, h⟩
  · refine (addset_any c b D l A cp w h hg hD hr (fun h ad e => ⟨fun e' => (hA h ad e).1 (by simp [e']), (hA h ad e).2⟩) hs).mono ?_
    rintro e w' ⟨he, h1, h2⟩
    exact ⟨he, _, .inl ⟨b, rfl, h1⟩, ⟨h2.os, h2.tape, h2.output, h2.size, fun k hk hn => h2.block k hk (fun e => hn (by simp at e; simp [e])), fun _ h => .inl h⟩⟩
  · have hl : l.length ≤ 1000000000 := by omega
    refine (addset_new c l A cp w h hl hr (fun h ad e => ⟨fun e' => (hA h ad e).1 (by simp [e']), (hA h ad e).2⟩) hs).mono ?_
    rintro e w' ⟨he, h1, h2⟩
    refine ⟨?_, _, .inl ⟨w.heap.size, rfl, h1⟩, h2⟩
    rw [he]
    show _ = Ending.returned (.int .i64 ((Maps.size (setS l) : Int) - ((0 : Nat) : Int)))
    simp
/-- slices.Sorted(maps.Keys(nil)). -/
theorem sorted_none (w : World) :
    Calls Tryz.prog 98 #[.func (.func 138) #[] #[.pointer (some ⟨w.heap.size, 0, none⟩)]] (w.alloc (.cells #[.map none] 58)) fun e w' => e = .returned (.slice none 0 0) ∧ Below (w.heap.size + 1) (w.alloc (.cells #[.map none] 58)) w' := by
  have hseq : SeqGives Fence.wide 2 Tryz.prog 138 #[.pointer (some ⟨w.heap.size, 0, none⟩)] encStr (fun ss : List (List UInt8) => ss = []) 0 (w.alloc (.cells #[.map none] 58)) :=
    AnyZ.keys_gives_nil (ρ := Tryz.keysA_ren) { Tryz.keysA with } Fence.wide _ trivial rfl w.heap.size _ (by simp) (by simp)
  have cS := AnyZ.sorted_in Tryz.sortedA Fence.wide 5 trivial trivial trivial trivial rfl (by omega) (sortsT _) (enters_of Tryz.func137 (by kernel_rfl) rfl) 138 #[.pointer (some ⟨w.heap.size, 0, none⟩)] trivial (enters_of Tryz.func138 (by kernel_rfl) rfl) _ _ (by unfold maxLen; omega) (by omega) _ hseq
  have cS2 := callsIn_wide.1 cS
  rw [World.size_alloc] at cS2
  refine cS2.mono ?_
  rintro e w' ⟨v, ss, rfl, rfl, _, hv, hb⟩
  rw [hv.2 rfl]
  exact ⟨rfl, hb⟩
theorem lstS_none : lstS (.map [] : DataW Unit) = [] := by
  have := lstS_len goodS_none
  exact List.eq_nil_of_length_eq_zero this
set_option maxHeartbeats 1000000 in
theorem list_zero (c : Nat) (w : World) (h : w.heap[c]? = some (.cells #[.map none] 60 (0, 0))) :
    Calls Tryz.prog 24 #[.pointer (some ⟨c, 0, none⟩)] w fun e w' => e = .returned (.slice none 0 0) ∧ Below w.heap.size w w' := by
  have hS := sorted_none w
  have c0 : w.cell? ⟨c, 0, none⟩ = some (.map none) := by rw [Lib.cell_of_heap h]; rfl
  have HS := Lib.hid hS
  clear hS h
  go_enter Tryz.func24, Tryz.ntmps24
  go_wp2_with fail
  refine (keys_any _ _).mono ?_
  rintro e w1 ⟨rfl, rfl⟩
  go_wp2_with fail
  refine HS.out.mono ?_
  rintro e w2 ⟨rfl, hb2⟩
  have HBL : Hid (Below w.heap.size w w2) := ((Below.refl w.heap.size w).alloc (Nat.le_refl _) _).trans (hb2.mono (by omega))
  clear hb2 HS
  go_wp2
  go_ret
  exact ⟨rfl, HBL.out⟩
theorem listF (c : Nat) (S : List Nat) (D : DataW Unit) (hg : GoodS D) (hD : Maps.size D ≤ 1000000) (w : World) (h : SetF c S D w) :
    Calls Tryz.prog 24 #[.pointer (some ⟨c, 0, none⟩)] w fun e w' => ∃ v : Value, e = .returned v ∧ w'.ownsRow w.heap.size 9 1 v (lstS D).length (strs (lstS D)) ∧ Below w.heap.size w w' := by
  rcases h with ⟨b, rfl, h⟩ | ⟨rfl, rfl, h⟩
  · exact list_own c b D hg hD w h
  · refine (list_zero c w h).mono ?_
    rintro e w' ⟨rfl, hb⟩
    rw [lstS_none]
    exact ⟨_, rfl, World.ownsRow_nil _ _ _ _, hb⟩
def inL (l : List ByteArray) (x : ByteArray) : Bool := l.any fun a => a.toList == x.toList
theorem inL_iff {l : List ByteArray} {x : ByteArray} : inL l x = true ↔ x ∈ l := by
  unfold inL
  rw [List.any_eq_true]
  constructor
  · rintro ⟨a, ha, h⟩
    rw [← bytes_eq_iff.1 h]
    exact ha
  · intro h
    exact ⟨x, h, by simp⟩
set_option maxHeartbeats 400000 in
/-- The law's own has. -/
theorem lhas_any (l : List ByteArray) (x : ByteArray) (A : Option Addr) (c n B : Nat) (hn : l.length = n) (w : World) (hr : Reads w B 1 A n (strs l)) (hl : n ≤ 9223372036854775807) :
    Calls Tryz.prog 20 #[.slice A n c, .string x] w fun e w' => e = .returned (.bool (inL l x)) ∧ w = w' := by
  have HN := Lib.hid hn
  clear hn
  obtain ⟨R, hR⟩ : ∃ R, inL l x = R := ⟨_, rfl⟩
  rw [hR]
  have HR := Lib.hid hR
  clear hR
  go_enter Tryz.func20, Tryz.ntmps20
  go_wp2
  go_loop [5] (fun i => ∃ k : Nat, k ≤ n ∧ i = .int .i64 k ∧ Hid (x ∉ l.take k)) (fun i => n - (intOf i).toNat)
  case atStart => exact ⟨0, Nat.zero_le _, rfl, by show x ∉ _; simp⟩
  case round =>
    obtain ⟨k, hk, rfl, HK⟩ := hrel
    by_cases hlt : k < n
    · obtain ⟨ad, s, rfl, _, hsk, hc⟩ := str_at hr hlt
      have Hsk := Lib.hid hsk
      clear hsk
      by_cases he : s = x
      · subst he
        have hq : (s.toList == s.toList) = true := by simp
        have HT : Hid (R = true) := by
          show _ = _
          rw [← HR.out]
          exact inL_iff.2 (List.mem_of_getElem? Hsk.out)
        clear HR
        go_wp2
        go_ret
        exact ⟨ret_bool HT.out.symm, rfl⟩
      · have hq : (s.toList == x.toList) = false := by
          rw [beq_eq_false_iff_ne]
          exact fun e => he (toList_inj e)
        have HE := Lib.hid he
        clear he
        go_wp2
        go_round
        case rel =>
          refine ⟨k + 1, hlt, by go_num, ?_⟩
          show x ∉ _
          rw [take_snoc Hsk.out, List.mem_append, List.mem_singleton]
          rintro (h | h)
          · exact HK.out h
          · exact HE.out h.symm
        case measure => simp [intOf]; omega
    · obtain rfl : k = n := by omega
      have HF : Hid (R = false) := by
        show _ = _
        rw [← HR.out]
        have := HK.out
        rw [List.take_of_length_le (by have := HN.out; omega)] at this
        cases h : inL l x
        · rfl
        · exact absurd (inL_iff.1 h) this
      clear HR
      go_wp2
      go_ret
      exact ⟨ret_bool HF.out.symm, rfl⟩
end Go.Proofs.YtlniafpbkhkkaaaGreat
