/-
  Package value's Merge as a contract.
  Conditions: pledges in a list that the call reads; quantities from 0 on, of each asset at most 2^60 in all.
-/
import Derived.Test.YtiekolbkmgdfoaaAcc
import Derived.Test.YtiekolbkmgdfoaaPlEq
import Derived.Test.YtiekolbkmgdfoaaMgPlain
import Derived.Test.YtiekolbkmgdfoaaShelf3
import Derived.Test.YtiekolbkmgdfoaaValueEnough
import Derived.Maps.GroupsBeside
import Derived.Deep.RegionHeldLaw
namespace Go.Proofs.Ytiekolbkmgdfoaa
open Go.RowKit Go.Maps Go.Sort Go.Shelf
set_option maxRecDepth 100000

theorem keyT : Keyed Try.prog 9 := string_keyed Try.underlying9
theorem zeroI (w : World) : (zeroValue 50).run Try.prog w = .ok (.slice none 0 0) w := by kernel_rfl
theorem key_str {s : ByteArray} (h : s.size ≤ 9223372036854775807) : keyOf Try.prog 9 (.string s) = some (kS s) := by
  unfold keyOf kS
  simp [Try.underlying9, mapKey]
  unfold maxLen
  exact h
theorem info_int : (Try.prog.info? 3).map (fun i => (i.zero, i.size, i.bytes)) = some (some (.int .i64 0), 1, 8) := by kernel_rfl
section
variable {H : Type} {P : Program} {k t E : TypeId} {w w' : World} {b : Nat}
/-- A look-up asks of the world nothing but the map's block. -/
theorem look_same {R : Value → Option (DataW H × List MemPlace)} {es : Array MapEntry} {clock : Nat} (K : Keyed P k) (ht : P.underlying t = some (.map k E)) {z : Value} (hz : ∀ w, (zeroValue E).run P w = .ok z w) (hb : w.heap[b]? = some (.map es clock)) (hb' : w'.heap[b]? = some (.map es clock)) (F : WideElems.Fit P k R es clock) {key : Value} {kl : Lit} (hkey : keyOf P k key = some kl) {v : Value}
    (h : (Instr.lookup t (.map (some b)) key false).run P w = .ok v w) : (Instr.lookup t (.map (some b)) key false).run P w' = .ok v w' := by
  have hap := Maps.fit_apart K F
  rcases Maps.fit_look false K ht (hz w) hb F hkey with ⟨h1, n1, _⟩ | ⟨e0, y, m0, k0, h1, _, _, _⟩ <;> rcases Maps.fit_look false K ht (hz w') hb' F hkey with ⟨h2, n2, _⟩ | ⟨e1, y', m1, k1, h2, _, _, _⟩
  · rw [h1] at h; injection h with h; rw [h2, ← h]
  · exact absurd k1 (n1 e1 m1)
  · exact absurd k0 (n2 e0 m0)
  · have e : e0 = e1 := by
      obtain ⟨i, hi, hi2⟩ := List.getElem_of_mem m0
      obtain ⟨j, hj, hj2⟩ := List.getElem_of_mem m1
      have hk : (WideElems.rg P k R e0).1 = (WideElems.rg P k R e1).1 := by
        obtain ⟨y0, hy0⟩ := F.reads e0 m0
        obtain ⟨y1, hy1⟩ := F.reads e1 m1
        have a0 := WideElems.rd_key hy0
        have a1 := WideElems.rd_key hy1
        rw [k0] at a0
        rw [k1, a0] at a1
        rw [WideElems.rg_of hy0, WideElems.rg_of hy1]
        exact Option.some.inj a1
      rw [List.pairwise_map, List.pairwise_iff_getElem] at hap
      rcases Nat.lt_trichotomy i j with hlt | rfl | hlt
      · exact absurd (by rw [hi2, hj2]; exact hk) (hap i j hi hj hlt)
      · rw [← hi2, ← hj2]
      · exact absurd (by rw [hi2, hj2]; exact hk.symm) (hap j i hj hi hlt)
    subst e
    rw [h1] at h
    injection h with h
    rw [h2, ← h]
theorem groups_below {base n : Nat} {e : TypeId} {q : IntKind} {D : DataW H} (h : w.ownsGroups P k base e q b n D) (hb : Below w.heap.size w w') : w'.ownsGroups P k base e q b n D :=
  h.kept (row := none) ⟨hb.os, hb.tape, hb.output, hb.size, fun k hk _ => hb.block k hk⟩ (by simp) (h.rowsAbove (by simp))
theorem groups_map {base n : Nat} {e : TypeId} {q : IntKind} {D : DataW H} (h : w.ownsGroups P k base e q b n D) : w.ownsMap P k (rowElem w base e q) b n D := by
  obtain ⟨es, clock, hb, F, hs, hD, _⟩ := h
  exact ⟨es, clock, hb, F, hs, hD⟩
theorem groups_lt {base n : Nat} {e : TypeId} {q : IntKind} {D : DataW H} (h : w.ownsGroups P k base e q b n D) : b < base ∧ b < w.heap.size := by
  obtain ⟨es, clock, hb, F, hs, hD, hbb, _⟩ := h
  exact ⟨hbb, (Array.getElem?_eq_some_iff.1 hb).1⟩
/-- A look-up in groups, in whatever world in which the map stands. -/
theorem groups_at {base n : Nat} {e : TypeId} {q : IntKind} {D : DataW H} {key : Value} {kl : Lit} (h : w.ownsGroups P k base e q b n D) (K : Keyed P k) (ht : P.underlying t = some (.map k E)) (hz : ∀ w, (zeroValue E).run P w = .ok (.slice none 0 0) w) (hn : n < maxLen) (hkey : keyOf P k key = some kl) :
    ∃ v zs, (∀ w', w'.heap[b]? = w.heap[b]? → (Instr.lookup t (.map (some b)) key false).run P w' = .ok v w') ∧ D.atKey kl .nil = rowDatum q v zs ∧ w.ownsInts base e q v zs ∧ zs.length ≤ n ∧ w.groupBack P t k base e q b n D key kl v := by
  obtain ⟨v, zs, hrun, hat, hoi, hl, hback⟩ := h.at K ht (hz w) hn hkey
  refine ⟨v, zs, fun w' e => ?_, hat, hoi, hl, hback⟩
  obtain ⟨es, clock, hb, F, _⟩ := h
  exact look_same K ht hz hb (e.trans hb) F hkey hrun
end
theorem sortsT (m : Nat) : AnyZ.SortsIn Try.prog Try.sortedA_ren Fence.wide m :=
  ⟨fun blk off cap ss W hH hblk hsz => callsIn_wide.2 (AnyM.slices_Sort_string Try.sortA blk off cap ss W hH hblk hsz),
   fun p cap W => callsIn_wide.2 (AnyM.slices_Sort_string_none Try.sortA p cap W)⟩
theorem keys_any (mb : Option Nat) (W : World) : Calls Try.prog 21 #[.map mb] W fun e w' => e = .returned (.func (.func 29) #[] #[.pointer (some ⟨W.heap.size, 0, none⟩)]) ∧ w' = W.alloc (.cells #[.map mb] 56) :=
  callsIn_wide.1 (AnyZ.keys_in Try.keysA Fence.wide 5 trivial rfl mb W)
theorem sorted_any {R : Value → Option (DataW Unit × List MemPlace)} (b nn : Nat) (D : DataW Unit) (w : World) (hown : w.ownsMap Try.prog 9 R b nn D) (hmax : Maps.size D ≤ 1000000) :
    Calls Try.prog 20 #[.func (.func 29) #[] #[.pointer (some ⟨w.heap.size, 0, none⟩)]] (w.alloc (.cells #[.map (some b)] 56)) fun e w' => ∃ (v : Value) (ss : List (List UInt8)), e = .returned v ∧ ss.Perm (strKeys D) ∧
      w'.ownsRow (w.heap.size + 1) 9 1 v ss.length ((ss.mergeSort (fun x y => decide (x ≤ y))).map encStr) ∧ (v = .slice none 0 0 ↔ ss = []) ∧ Below (w.heap.size + 1) (w.alloc (.cells #[.map (some b)] 56)) w' := by
  have hbl : b < w.heap.size := by
    obtain ⟨es, clock, hb, _⟩ := hown
    exact (Array.getElem?_eq_some_iff.1 hb).1
  have hseq : SeqGives Fence.wide 2 Try.prog 29 #[.pointer (some ⟨w.heap.size, 0, none⟩)] encStr (fun ss => ss.Perm (strKeys D)) (Maps.size D) (w.alloc (.cells #[.map (some b)] 56)) :=
    AnyZ.keys_gives (ρ := Try.keysA_ren) { Try.keysA with } Fence.wide _ trivial rfl (by omega) w.heap.size b nn D _ (by simp) (by simp) (by
      obtain ⟨es, clock, hb, Ft, hs, hD⟩ := hown
      exact ⟨es, clock, (Below.heap_alloc _ _ b hbl).trans hb, Ft, hs, hD⟩)
  have cS := AnyZ.sorted_in Try.sortedA Fence.wide 5 trivial trivial trivial trivial rfl (by omega) (sortsT _) (enters_of Try.func28 (by kernel_rfl) rfl) 29 #[.pointer (some ⟨w.heap.size, 0, none⟩)] trivial (enters_of Try.func29 (by kernel_rfl) rfl) _ _ (by unfold maxLen; omega) (by omega) _ hseq
  have cS2 := callsIn_wide.1 cS
  rw [World.size_alloc] at cS2
  exact cS2
theorem encs (l : List (List UInt8)) : l.map encStr = strs (l.map fun x => ⟨x.toArray⟩) := by
  unfold strs
  rw [List.map_map]
  rfl
theorem sumL_int : ∀ zs : List Int, (∀ z ∈ zs, 0 ≤ z) → ∀ a : Nat, (((zs.map Int.toNat).foldl (· + ·) a : Nat) : Int) = a + zs.sum
  | [], _, a => by simp
  | z :: zs, h, a => by
    have h0 := h z (by simp)
    rw [List.map_cons, List.foldl_cons, sumL_int zs (fun x hx => h x (by simp [hx])), List.sum_cons]
    omega
theorem addI (g : Nat) (zs : List Int) (hnn : ∀ z ∈ zs, 0 ≤ z) (n : Nat) (hn : zs.length = n) (A : Option Addr) (cp B : Nat) (w : World) (hr : Reads w B 1 A n (ints zs)) (hl : n ≤ 1000000) (hs : zs.sum ≤ 1152921504606846976) :
    Calls Try.prog 10 #[.pointer (some ⟨g, 0, none⟩), .slice A n cp] w fun e w' => e = .returned (.int .i64 zs.sum) ∧ w = w' := by
  have e1 : (zs.map Int.toNat).map Int.ofNat = zs := by
    rw [List.map_map]
    conv => rhs; rw [← List.map_id zs]
    exact List.map_congr_left fun z hz => by
      have := hnn z hz
      show ((z.toNat : Nat) : Int) = z
      omega
  have e2 : (zs.map Int.toNat).length = n := by rw [List.length_map, hn]
  have e3 := sumL_int zs hnn 0
  have e4 : ((sumL (zs.map Int.toNat) : Nat) : Int) = zs.sum := by
    unfold sumL
    rw [e3]
    omega
  have q := add_any g (zs.map Int.toNat) A cp B w (by rw [e1, e2]; exact hr) (by omega) (by omega)
  rw [e2, e4] at q
  exact q
end Go.Proofs.Ytiekolbkmgdfoaa
