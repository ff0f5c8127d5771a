/-
  Texts of one chapter joined: XSn1, XSn2, XSn3.
  Conditions: each lemma's own premises.
-/
import Derived.WalkKit
import Derived.Lib.Hide
import Derived.KernelRfl
import Derived.Test.YtjhinifmdjlblaaGreatSnD
import Derived.Test.YtjhinifmdjlblaaGreatShelf
import Derived.Test.YtjhinifmdjlblaaGreatWalC
namespace Go.Proofs.YtjhinifmdjlblaaGreat
open Go.RowKit
set_option maxRecDepth 100000

theorem size_any_ (n : Nat) (hn : n ≤ 9223372036854775807) (w : World) :
    Calls Tryz.prog 76 #[.int .i64 n] w fun e w' => e = .returned (.int .u64 n) ∧ w = w' := by
  go_enter Tryz.func76, Tryz.ntmps76
  go_wp2
  go_ret
  exact ⟨rfl, rfl⟩
/-- The array of digits: from i on what is laid. -/
def DigAt (g i : Nat) (l : List UInt8) (w : World) : Prop := ∃ cs : Array Value, w.heap[g]? = some (.cells cs 102 (0, 0)) ∧ cs.size = 21 ∧ cs.toList.drop i = Lib.byteCells l
theorem dig_rest (f m : Nat) (l : List UInt8) (h : ¬ m < 10) : Snp.digsF (f + 1) m ++ l = Snp.digsF f (m / 10) ++ (Snp.dig m :: l) := by
  conv => lhs; unfold Snp.digsF
  rw [if_neg h]
  simp
theorem dig_last (f m : Nat) (l : List UInt8) (h : m < 10) : Snp.digsF (f + 1) m ++ l = Snp.dig m :: l := by
  conv => lhs; unfold Snp.digsF
  rw [if_pos h]
  simp
section
variable {g i : Nat} {l : List UInt8} {w : World}
theorem DigAt.lt (h : DigAt g i l w) : g < w.heap.size := by obtain ⟨cs, h1, _⟩ := h; exact Blk.lt h1
theorem DigAt.frozen (h : DigAt g i l w) (j : Nat) : w.frozen? ⟨g, j, none⟩ = false := by obtain ⟨cs, h1, _⟩ := h; exact Blk.frozen h1 j
theorem DigAt.cell (h : DigAt g i l w) {j : Nat} (hj : j < 21) : ∃ v, w.cell? ⟨g, j, none⟩ = some v := by
  obtain ⟨cs, h1, h2, _⟩ := h
  rw [Blk.cell h1]
  exact ⟨cs[j], Array.getElem?_eq_getElem (by omega)⟩
theorem DigAt.set (h : DigAt g (i + 1) l w) (hi : i < 21) (d : UInt8) {z : Int} (hz : z = (d.toNat : Nat)) : DigAt g i (d :: l) (w.setCell ⟨g, i, none⟩ (.int .u8 z)) := by
  obtain ⟨cs, h1, h2, h3⟩ := h
  refine ⟨cs.setIfInBounds i (.int .u8 z), Blk.set_ h1 i _, by simpa using h2, ?_⟩
  subst hz
  have hl : i < (cs.setIfInBounds i (.int .u8 (d.toNat : Nat))).toList.length := by simpa [h2] using hi
  rw [← List.getElem_cons_drop hl]
  have e1 : (cs.setIfInBounds i (.int .u8 (d.toNat : Nat))).toList[i] = .int .u8 (d.toNat : Nat) := by simp
  have e2 : (cs.setIfInBounds i (.int .u8 (d.toNat : Nat))).toList.drop (i + 1) = cs.toList.drop (i + 1) := by
    rw [Array.toList_setIfInBounds]
    exact List.drop_set_of_lt (Nat.lt_succ_self _)
  rw [e1, e2, h3]
  rfl
theorem DigAt.reads (h : DigAt g i l w) (_hi : i ≤ 21) : Reads w (g + 1) 1 (some ⟨g, i, none⟩) (21 - i) (Lib.byteCells l) := by
  obtain ⟨cs, h1, h2, h3⟩ := h
  refine ⟨?_, fun _ => ⟨_, rfl, Nat.lt_succ_self _, fun j u hu => ?_⟩⟩
  · rw [← h3]; simp [h2]
  · rw [← h3, List.getElem?_drop] at hu
    have e : (⟨g, i, none⟩ : Addr).add j = ⟨g, i + j, none⟩ := by
      unfold Addr.add; split
      · rename_i h; subst h; rfl
      · rfl
    rw [e, Blk.cell h1]
    simpa using hu
end
theorem slice21 (g k : Nat) (hk : k ≤ 20) (W : World) : (Instr.sliceAt 102 (.pointer (some ⟨g, 0, none⟩)) (some (.int .i64 k)) none none).run Tryz.prog W = .ok (.slice (some ⟨g, k, none⟩) (21 - k) (21 - k)) W := by
  have e : Tryz.prog.arrayLen 102 = 21 := by kernel_rfl
  rw [run_sliceAt_array_l (P := Tryz.prog) W 102 ⟨g, 0, none⟩ (by kernel_rfl) .i64 k (by omega) (by rw [e]; omega), e]
  have hs : (sizeOf (Tryz.prog.elem 102)).run Tryz.prog W = .ok 1 W := by kernel_rfl
  rw [hs]
  show Result.ok (slicedAt ⟨g, 0, none⟩ k 21 21 1) W = _
  unfold slicedAt
  rw [if_neg (by omega)]
  congr 2
  congr 1
  unfold Addr.add
  split
  · rename_i h; have : k = 0 := by omega
    subst this; rfl
  · congr 1; show 0 + k * 1 = k; omega
set_option maxHeartbeats 1000000 in
theorem digits_any (n : Nat) (hn : n ≤ 9223372036854775807) (w : World) :
    Calls Tryz.prog 43 #[.int .i64 n] w fun e w' => e = .returned (.string (digB n)) ∧ Below w.heap.size w w' := by
  have hsz := fun w => size_any_ n hn w
  have hn0 : (0 : Int) ≤ n := by omega
  go_enter Tryz.func43, Tryz.ntmps43
  go_wp2_with fail
  refine (hsz _).mono ?_
  rintro e w1 ⟨rfl, rfl⟩
  go_wp2
  go_loopw [3, 5] (fun vn vi wr => ∃ k m l, vn = .int .u64 (m : Nat) ∧ vi = .int .i64 ((k : Nat) : Int) ∧ m ≤ 9223372036854775807 ∧ k ≤ 21 ∧ Hid (DigAt w.heap.size k l wr ∧ 2 ≤ k ∧ m < 10 ^ (k - 1) ∧ Snp.digsF (k - 1) m ++ l = Snp.digs n ∧ Below w.heap.size w wr)) (fun vn _ _ => (intOf vn).toNat)
  case atStart =>
    refine ⟨21, n, [], rfl, rfl, hn, Nat.le_refl _, ⟨⟨_, heap_alloc_new w _, rfl, rfl⟩, by omega, ?_, ?_, (Below.refl _ _).alloc (Nat.le_refl _) _⟩⟩
    · have : (10 : Nat) ^ (21 - 1) = 100000000000000000000 := by decide
      omega
    · simp [Snp.digs]
  case round =>
    obtain ⟨k1, m, l, rfl, rfl, hm63, hk, HR⟩ := hrel
    obtain ⟨hd, hk1, hm, hl, hb⟩ := HR.out
    obtain ⟨k, rfl⟩ : ∃ k, k1 = k + 1 := ⟨k1 - 1, by omega⟩
    clear HR
    have hf := hd.frozen k
    obtain ⟨v, hv⟩ := hd.cell (j := k) (by omega)
    have hd2 := hd.set (by omega) (Snp.dig m) (z := 48 + (m : Int) % 10) (by rw [Snp.dig_toNat]; omega)
    have hb2 : Below w.heap.size w (wr.setCell ⟨w.heap.size, k, none⟩ (.int .u8 (48 + (m : Int) % 10))) := hb.setCell (p := ⟨w.heap.size, k, none⟩) (Nat.le_refl _) _
    obtain ⟨W, hW⟩ : ∃ W, wr.setCell ⟨w.heap.size, k, none⟩ (.int .u8 (48 + (m : Int) % 10)) = W := ⟨_, rfl⟩
    rw [hW] at hd2 hb2
    have hsl := slice21 w.heap.size k (by omega) W
    have e1 : k + 1 - 1 = k := rfl
    rw [e1] at hm hl
    have hk20 : k ≤ 20 := by omega
    have HB2 := Lib.hid hb2
    obtain ⟨q, hq⟩ : ∃ q, m / 10 = q := ⟨_, rfl⟩
    have hdiv : (m : Int) / 10 = (q : Int) := by omega
    by_cases h10 : m < 10
    · have hq0 : q = 0 := by omega
      subst hq0
      obtain ⟨j, hkj⟩ : ∃ j, k = j + 1 := ⟨k - 1, by omega⟩
      have hl2 : Snp.digsF (j + 1) m ++ l = Snp.digs n := by rw [← hkj]; exact hl
      rw [dig_last _ _ _ h10] at hl2
      have hrd := hd2.reads (by omega)
      have hcv := run_bytes_string (P := Tryz.prog) (c := 21 - k) W Tryz.underlying39 Tryz.underlying5 Tryz.underlying9 (by have := hrd.1; rw [Lib.byteCells_length] at this; omega) hrd
      rw [hl2] at hcv
      have HCV := Lib.hid hcv
      have h21 : ((21 - k : Nat) : Int) = 21 - (k : Int) := by omega
      have hcv2 : (convert 39 9 (.slice (some ⟨w.heap.size, k, none⟩) (21 - k) (21 - k))).run Tryz.prog W = .ok (.string (digB n)) W := HCV.out
      clear hl hl2 hd2 hb2 hd hb hm e1 hq hcv h21 hrd HCV hkj
      go_wp2
      go_ret
      exact ⟨rfl, HB2.out⟩
    · have hz : ((q : Int) == 0) = false := by simp; omega
      obtain ⟨k', rfl⟩ : ∃ k', k = k' + 1 := ⟨k - 1, by omega⟩
      rw [dig_rest _ _ _ h10, hq] at hl
      have HR2 : Hid (DigAt w.heap.size (k' + 1) (Snp.dig m :: l) W ∧ 2 ≤ k' + 1 ∧ q < 10 ^ (k' + 1 - 1) ∧ Snp.digsF (k' + 1 - 1) q ++ (Snp.dig m :: l) = Snp.digs n ∧ Below w.heap.size w W) := by
        have hqk : q < 10 ^ k' := by rw [Nat.pow_succ] at hm; omega
        refine ⟨hd2, ?_, hqk, hl, hb2⟩
        rcases Nat.eq_zero_or_pos k' with h | h
        · subst h; simp at hqk; omega
        · omega
      have HQ : Hid (q < m) := by show q < m; omega
      have hq63 : q ≤ 9223372036854775807 := by omega
      clear hl hd2 hb2 hd hb hm hsl e1 hq
      go_wp2
      go_roundw
      case rel => exact ⟨k' + 1, q, _, rfl, rfl, hq63, by omega, HR2.out⟩
      case measure => have := HQ.out; simp [intOf]; omega
end Go.Proofs.YtjhinifmdjlblaaGreat
namespace Go.Proofs.YtjhinifmdjlblaaGreat
open Go.RowKit
set_option maxRecDepth 100000

theorem cutP_shelf (s p : List UInt8) : Snp.cutP s p = (Lib.trimPrefix s p, Lib.hasPrefix s p) := by
  unfold Snp.cutP Lib.trimPrefix Lib.hasPrefix
  by_cases h : p.isPrefixOf s = true
  · rw [if_pos h, if_pos h, h]
  · rw [if_neg h, if_neg h, Bool.eq_false_iff.2 h]
def codeOf (b : Bool) : Int := if b = true then 0 else 1
theorem codeOf_true : codeOf true = 0 := rfl
theorem codeOf_false : codeOf false = 1 := rfl
def numR (d : ByteArray) (b : Bool) : Int × Bool := if Snp.numOk d.data.toList b = true then (if b = true then -(Snp.val d.data.toList : Int) else (Snp.val d.data.toList : Int), true) else (0, false)
theorem numR_bad {d : ByteArray} {b : Bool} (h : Snp.numOk d.data.toList b = false) : numR d b = (0, false) := by unfold numR; rw [if_neg (by rw [h]; decide)]
theorem numR_good {d : ByteArray} {b : Bool} (h : Snp.numOk d.data.toList b = true) : numR d b = (if b = true then -(Snp.val d.data.toList : Int) else (Snp.val d.data.toList : Int), true) := by unfold numR; rw [if_pos h]
/-- Where a number goes wrong at once. -/
theorem numberP_eq (s d : ByteArray) (b : Bool) (hd : (⟨(Lib.trimPrefix s.data.toList [45]).toArray⟩ : ByteArray) = d) (hb : Lib.hasPrefix s.data.toList [45] = b) :
    Snp.numberP s.data.toList = numR d b := by
  unfold Snp.numberP numR
  rw [cutP_shelf, hb, ← hd]
theorem head_at (d : ByteArray) (h : 0 < d.size) : d.data.toList.head? = some d[0] := by
  rw [List.head?_eq_getElem?]
  exact byte_at d h
theorem isDig_iff {x : UInt8} : Snp.isDig x = true ↔ 48 ≤ x.toNat ∧ x.toNat ≤ 57 := by unfold Snp.isDig; simp
theorem not_dig {x : UInt8} (h : ¬ Snp.isDig x = true) : x.toNat < 48 ∨ 57 < x.toNat := by
  rw [isDig_iff] at h
  omega
/-- The first k bytes read as a number. -/
def NumUpto (d : ByteArray) (k m : Nat) : Prop := (d.data.toList.take k).all Snp.isDig = true ∧ Snp.val (d.data.toList.take k) = m ∧ m < 10 ^ k
theorem NumUpto.zero (d : ByteArray) : NumUpto d 0 0 := ⟨by simp, by simp [Snp.val], by decide⟩
theorem NumUpto.step {d : ByteArray} {k m : Nat} (h : NumUpto d k m) (hk : k < d.size) (hd : Snp.isDig d[k] = true) (h18 : k < 18) : 10 * m + (d[k].toNat - 48) < 1000000000000000000 ∧ NumUpto d (k + 1) (10 * m + (d[k].toNat - 48)) := by
  obtain ⟨h1, h2, h3⟩ := h
  have hg := (isDig_iff.1 hd).2
  have hp : 10 * m + (d[k].toNat - 48) < 10 ^ (k + 1) := by rw [Nat.pow_succ]; omega
  have hle : (10 : Nat) ^ (k + 1) ≤ 10 ^ 18 := Nat.pow_le_pow_right (by omega) (by omega)
  have e18 : (10 : Nat) ^ 18 = 1000000000000000000 := by decide
  refine ⟨by omega, ?_, ?_, hp⟩
  · rw [take_snoc (byte_at d hk), List.all_append, h1]
    simpa using hd
  · rw [take_snoc (byte_at d hk), Snp.val_snoc, h2]
theorem NumUpto.full {d : ByteArray} {m : Nat} (h : NumUpto d d.size m) : Snp.val d.data.toList = m ∧ d.data.toList.all Snp.isDig = true := by
  obtain ⟨h1, h2, _⟩ := h
  rw [List.take_of_length_le (by rw [len_data]; exact Nat.le_refl _)] at h1 h2
  exact ⟨h2, h1⟩
theorem numOk_bad {d : ByteArray} {b : Bool} {k : Nat} (hk : k < d.size) (h : ¬ Snp.isDig d[k] = true) : Snp.numOk d.data.toList b = false := by
  have : d.data.toList.all Snp.isDig = false := by
    rw [List.all_eq_false]
    exact ⟨d[k], List.mem_of_getElem? (byte_at d hk), h⟩
  unfold Snp.numOk
  rw [this]
  simp
theorem numOk_good {d : ByteArray} {b : Bool} (h0 : 0 < d.size) (h18 : d.size ≤ 18) (ha : d.data.toList.all Snp.isDig = true) (hz : d[0].toNat = 48 → ¬ 1 < d.size ∧ b = false) : Snp.numOk d.data.toList b = true := by
  have hlen := len_data d
  have he : d.data.toList.isEmpty = false := by
    cases hl : d.data.toList with
    | nil => rw [hl] at hlen; simp at hlen; omega
    | cons a l => rfl
  unfold Snp.numOk
  rw [ha, he, hlen, decide_eq_true h18, head_at d h0]
  by_cases h48 : d[0].toNat = 48
  · obtain ⟨h1, rfl⟩ := hz h48
    rw [decide_eq_false h1]
    simp
  · have : (some d[0] == some 48) = false := by
      refine beq_false_of_ne fun e => h48 ?_
      injection e with e
      rw [e]; rfl
    rw [this]
    rfl
set_option maxHeartbeats 4000000 in
theorem number_any (s : ByteArray) (w : World) :
    Calls Tryz.prog 75 #[.string s] w fun e w' => e = .returned (.tuple #[.int .i64 (Snp.numberP s.data.toList).1, .int .i64 (codeOf (Snp.numberP s.data.toList).2)]) ∧ w = w' := by
  have hcp := Tryz.strings_CutPrefix s ⟨#[45]⟩
  have e45 : (⟨#[45]⟩ : ByteArray).data.toList = [45] := rfl
  rw [e45] at hcp
  obtain ⟨d, hd⟩ : ∃ d : ByteArray, (⟨(Lib.trimPrefix s.data.toList [45]).toArray⟩ : ByteArray) = d := ⟨_, rfl⟩
  obtain ⟨b, hb⟩ : ∃ b, Lib.hasPrefix s.data.toList [45] = b := ⟨_, rfl⟩
  rw [numberP_eq s d b hd hb]
  rw [hd, hb] at hcp
  have HCP := Lib.hid hcp
  clear hcp hd hb e45
  by_cases h0 : d.size = 0
  · have hd0 : d = ⟨#[]⟩ := of_data (by have := len_data d; rw [h0] at this; rw [List.eq_nil_of_length_eq_zero this])
    have hok : Snp.numOk d.data.toList b = false := by rw [hd0]; rfl
    rw [numR_bad hok, codeOf_false]
    subst hd0
    go_enter Tryz.func75, Tryz.ntmps75
    go_wp2_with fail
    refine (HCP.out w).mono ?_
    rintro e w1 ⟨rfl, rfl⟩
    go_wp2
    go_ret2
    exact ⟨rfl, rfl⟩
  have hlen := len_data d
  have hemp : d.data.toList.isEmpty = false := by
    cases hl : d.data.toList with
    | nil => rw [hl] at hlen; simp at hlen; omega
    | cons a l => rfl
  have hempw : d.toList.isEmpty = false := by rw [ByteArray.toList_eq]; exact hemp
  have hpos : 0 < d.size := by omega
  by_cases h18 : 18 < d.size
  · have hok : Snp.numOk d.data.toList b = false := by unfold Snp.numOk; rw [hlen, decide_eq_false (by omega)]; simp
    rw [numR_bad hok, codeOf_false]
    go_enter Tryz.func75, Tryz.ntmps75
    go_wp2_with fail
    refine (HCP.out w).mono ?_
    rintro e w1 ⟨rfl, rfl⟩
    go_wp2
    go_ret2
    exact ⟨rfl, rfl⟩
  have hhd := head_at d hpos
  have hi0 : (0 : Int) < d.size := by omega
  have hn18 : ¬ (18 : Int) < d.size := by omega
  by_cases h48 : d[0].toNat = 48
  · have hq48 : ((d[0].toNat : Int) == 48) = true := by simp; omega
    have hhd48 : (d.data.toList.head? == some 48) = true := by rw [hhd]; simp; exact UInt8.toNat_inj.1 h48
    by_cases h1 : 1 < d.size
    · have hok : Snp.numOk d.data.toList b = false := by unfold Snp.numOk; rw [hhd48, hlen, decide_eq_true h1]; simp
      rw [numR_bad hok, codeOf_false]
      have h1z : (1 : Int) < d.size := by omega
      go_enter Tryz.func75, Tryz.ntmps75
      go_wp2_with fail
      refine (HCP.out w).mono ?_
      rintro e w1 ⟨rfl, rfl⟩
      go_wp2
      go_ret2
      exact ⟨rfl, rfl⟩
    have h1z : ¬ (1 : Int) < d.size := by omega
    cases b
    rotate_left
    · have hok : Snp.numOk d.data.toList true = false := by unfold Snp.numOk; rw [hhd48]; simp
      rw [numR_bad hok, codeOf_false]
      go_enter Tryz.func75, Tryz.ntmps75
      go_wp2_with fail
      refine (HCP.out w).mono ?_
      rintro e w1 ⟨rfl, rfl⟩
      go_wp2
      go_ret2
      exact ⟨rfl, rfl⟩
    obtain ⟨R, hR⟩ : ∃ R, numR d false = R := ⟨_, rfl⟩
    rw [hR]
    have HR := Lib.hid hR
    clear hR
    go_enter Tryz.func75, Tryz.ntmps75
    go_wp2_with fail
    refine (HCP.out w).mono ?_
    rintro e w1 ⟨rfl, rfl⟩
    go_wp2
    go_loopw [6, 35] (fun vn vi wr => ∃ k m : Nat, k ≤ d.size ∧ vi = .int .i64 (k : Nat) ∧ vn = .int .i64 (m : Nat) ∧ wr = w1 ∧ m < 1000000000000000000 ∧ Hid (NumUpto d k m)) (fun _ vi _ => d.size - (intOf vi).toNat)
    case atStart => exact ⟨0, 0, Nat.zero_le _, rfl, rfl, rfl, by decide, NumUpto.zero d⟩
    case round =>
      obtain ⟨k, m, hk, rfl, rfl, rfl, hm, HU⟩ := hrel
      by_cases hlt : k < d.size
      · have hcz : (k : Int) < d.size := by omega
        have hu8 := d[k].toNat_lt
        by_cases hdg : Snp.isDig d[k] = true
        · obtain ⟨hg1, hg2⟩ := isDig_iff.1 hdg
          obtain ⟨hm2, HU2⟩ := HU.out.step hlt hdg (by omega)
          have HU3 := Lib.hid HU2
          have hlo : decide ((d[k].toNat : Int) < 48) = false := decide_eq_false (by omega)
          have hhi : decide ((57 : Int) < d[k].toNat) = false := decide_eq_false (by omega)
          obtain ⟨x, hx⟩ : ∃ x : Nat, d[k].toNat = x := ⟨_, rfl⟩
          rw [hx] at hg1 hg2 hm2 HU3 hlo hhi hu8
          obtain ⟨y, hy⟩ : ∃ y : Nat, x - 48 = y := ⟨_, rfl⟩
          rw [hy] at hm2 HU3
          have hy2 : (x : Int) - 48 = (y : Int) := by omega
          have hy9 : y ≤ 9 := by omega
          clear HU2 hdg HU
          go_wp2
          go_roundw
          case rel => exact ⟨k + 1, 10 * m + y, hlt, by go_num, by go_num, trivial, hm2, HU3.out⟩
          case measure => simp [intOf]; omega
        · have hno := numOk_bad (b := false) hlt hdg
          have hR2 := HR.out
          rw [numR_bad hno] at hR2
          subst hR2
          clear hno HU HR
          rcases not_dig hdg with hbad | hbad
          · have hlo : (d[k].toNat : Int) < 48 := by omega
            go_wp2
            go_ret2
            exact ⟨rfl, rfl⟩
          · have hhi : (57 : Int) < d[k].toNat := by omega
            have hlo : decide ((d[k].toNat : Int) < 48) = false := decide_eq_false (by omega)
            go_wp2
            go_ret2
            exact ⟨rfl, rfl⟩
      · obtain rfl : k = d.size := by omega
        have hfin := HU.out.full
        have hno : Snp.numOk d.data.toList false = true := numOk_good hpos (by omega) hfin.2 (by intro _; exact ⟨by omega, rfl⟩)
        have hR2 := HR.out
        rw [numR_good hno, hfin.1] at hR2
        subst hR2
        clear hno HU hfin HR
        go_wp2
        go_ret2
        exact ⟨rfl, rfl⟩
  have hq48 : ((d[0].toNat : Int) == 48) = false := by simp; omega
  cases b
  · skip
    obtain ⟨R, hR⟩ : ∃ R, numR d false = R := ⟨_, rfl⟩
    rw [hR]
    have HR := Lib.hid hR
    clear hR
    go_enter Tryz.func75, Tryz.ntmps75
    go_wp2_with fail
    refine (HCP.out w).mono ?_
    rintro e w1 ⟨rfl, rfl⟩
    go_wp2
    go_loopw [6, 35] (fun vn vi wr => ∃ k m : Nat, k ≤ d.size ∧ vi = .int .i64 (k : Nat) ∧ vn = .int .i64 (m : Nat) ∧ wr = w1 ∧ m < 1000000000000000000 ∧ Hid (NumUpto d k m)) (fun _ vi _ => d.size - (intOf vi).toNat)
    case atStart => exact ⟨0, 0, Nat.zero_le _, rfl, rfl, rfl, by decide, NumUpto.zero d⟩
    case round =>
      obtain ⟨k, m, hk, rfl, rfl, rfl, hm, HU⟩ := hrel
      by_cases hlt : k < d.size
      · have hcz : (k : Int) < d.size := by omega
        have hu8 := d[k].toNat_lt
        by_cases hdg : Snp.isDig d[k] = true
        · obtain ⟨hg1, hg2⟩ := isDig_iff.1 hdg
          obtain ⟨hm2, HU2⟩ := HU.out.step hlt hdg (by omega)
          have HU3 := Lib.hid HU2
          have hlo : decide ((d[k].toNat : Int) < 48) = false := decide_eq_false (by omega)
          have hhi : decide ((57 : Int) < d[k].toNat) = false := decide_eq_false (by omega)
          obtain ⟨x, hx⟩ : ∃ x : Nat, d[k].toNat = x := ⟨_, rfl⟩
          rw [hx] at hg1 hg2 hm2 HU3 hlo hhi hu8
          obtain ⟨y, hy⟩ : ∃ y : Nat, x - 48 = y := ⟨_, rfl⟩
          rw [hy] at hm2 HU3
          have hy2 : (x : Int) - 48 = (y : Int) := by omega
          have hy9 : y ≤ 9 := by omega
          clear HU2 hdg HU
          go_wp2
          go_roundw
          case rel => exact ⟨k + 1, 10 * m + y, hlt, by go_num, by go_num, trivial, hm2, HU3.out⟩
          case measure => simp [intOf]; omega
        · have hno := numOk_bad (b := false) hlt hdg
          have hR2 := HR.out
          rw [numR_bad hno] at hR2
          subst hR2
          clear hno HU HR
          rcases not_dig hdg with hbad | hbad
          · have hlo : (d[k].toNat : Int) < 48 := by omega
            go_wp2
            go_ret2
            exact ⟨rfl, rfl⟩
          · have hhi : (57 : Int) < d[k].toNat := by omega
            have hlo : decide ((d[k].toNat : Int) < 48) = false := decide_eq_false (by omega)
            go_wp2
            go_ret2
            exact ⟨rfl, rfl⟩
      · obtain rfl : k = d.size := by omega
        have hfin := HU.out.full
        have hno : Snp.numOk d.data.toList false = true := numOk_good hpos (by omega) hfin.2 (fun e => absurd e h48)
        have hR2 := HR.out
        rw [numR_good hno, hfin.1] at hR2
        subst hR2
        clear hno HU hfin HR
        go_wp2
        go_ret2
        exact ⟨rfl, rfl⟩
  · skip
    obtain ⟨R, hR⟩ : ∃ R, numR d true = R := ⟨_, rfl⟩
    rw [hR]
    have HR := Lib.hid hR
    clear hR
    go_enter Tryz.func75, Tryz.ntmps75
    go_wp2_with fail
    refine (HCP.out w).mono ?_
    rintro e w1 ⟨rfl, rfl⟩
    go_wp2
    go_loopw [6, 35] (fun vn vi wr => ∃ k m : Nat, k ≤ d.size ∧ vi = .int .i64 (k : Nat) ∧ vn = .int .i64 (m : Nat) ∧ wr = w1 ∧ m < 1000000000000000000 ∧ Hid (NumUpto d k m)) (fun _ vi _ => d.size - (intOf vi).toNat)
    case atStart => exact ⟨0, 0, Nat.zero_le _, rfl, rfl, rfl, by decide, NumUpto.zero d⟩
    case round =>
      obtain ⟨k, m, hk, rfl, rfl, rfl, hm, HU⟩ := hrel
      by_cases hlt : k < d.size
      · have hcz : (k : Int) < d.size := by omega
        have hu8 := d[k].toNat_lt
        by_cases hdg : Snp.isDig d[k] = true
        · obtain ⟨hg1, hg2⟩ := isDig_iff.1 hdg
          obtain ⟨hm2, HU2⟩ := HU.out.step hlt hdg (by omega)
          have HU3 := Lib.hid HU2
          have hlo : decide ((d[k].toNat : Int) < 48) = false := decide_eq_false (by omega)
          have hhi : decide ((57 : Int) < d[k].toNat) = false := decide_eq_false (by omega)
          obtain ⟨x, hx⟩ : ∃ x : Nat, d[k].toNat = x := ⟨_, rfl⟩
          rw [hx] at hg1 hg2 hm2 HU3 hlo hhi hu8
          obtain ⟨y, hy⟩ : ∃ y : Nat, x - 48 = y := ⟨_, rfl⟩
          rw [hy] at hm2 HU3
          have hy2 : (x : Int) - 48 = (y : Int) := by omega
          have hy9 : y ≤ 9 := by omega
          clear HU2 hdg HU
          go_wp2
          go_roundw
          case rel => exact ⟨k + 1, 10 * m + y, hlt, by go_num, by go_num, trivial, hm2, HU3.out⟩
          case measure => simp [intOf]; omega
        · have hno := numOk_bad (b := true) hlt hdg
          have hR2 := HR.out
          rw [numR_bad hno] at hR2
          subst hR2
          clear hno HU HR
          rcases not_dig hdg with hbad | hbad
          · have hlo : (d[k].toNat : Int) < 48 := by omega
            go_wp2
            go_ret2
            exact ⟨rfl, rfl⟩
          · have hhi : (57 : Int) < d[k].toNat := by omega
            have hlo : decide ((d[k].toNat : Int) < 48) = false := decide_eq_false (by omega)
            go_wp2
            go_ret2
            exact ⟨rfl, rfl⟩
      · obtain rfl : k = d.size := by omega
        have hfin := HU.out.full
        have hno : Snp.numOk d.data.toList true = true := numOk_good hpos (by omega) hfin.2 (fun e => absurd e h48)
        have hR2 := HR.out
        rw [numR_good hno, hfin.1] at hR2
        subst hR2
        clear hno HU hfin HR
        go_wp2
        go_ret2
        exact ⟨rfl, rfl⟩
end Go.Proofs.YtjhinifmdjlblaaGreat
namespace Go.Proofs.YtjhinifmdjlblaaGreat
open Go.RowKit
set_option maxRecDepth 100000

set_option maxHeartbeats 1000000 in
theorem snnum_any (file ahead : ByteArray) (w : World) :
    Calls Tryz.prog 40 #[.string file, .string ahead] w fun e w' => e = .returned (.tuple #[.int .i64 (numB file ahead).1, .bool (numB file ahead).2]) ∧ w = w' := by
  have hcp := fun w => Lib.hid (Tryz.strings_CutPrefix file ahead w)
  obtain ⟨d, hd⟩ : ∃ d : ByteArray, (⟨(Lib.trimPrefix file.data.toList ahead.data.toList).toArray⟩ : ByteArray) = d := ⟨_, rfl⟩
  obtain ⟨b, hb⟩ : ∃ b, Lib.hasPrefix file.data.toList ahead.data.toList = b := ⟨_, rfl⟩
  have hnum := fun w => Lib.hid (number_any d w)
  have hd2 : Lib.trimPrefix file.data.toList ahead.data.toList = d.data.toList := by rw [← hd]
  have e : numB file ahead = ((Snp.numberP d.data.toList).1, b && (Snp.numberP d.data.toList).2 && decide (0 ≤ (Snp.numberP d.data.toList).1)) := by
    unfold numB Snp.numAt
    rw [cutP_shelf, hb, hd2]
  rw [e]
  rw [hd, hb] at hcp
  obtain ⟨x, hx⟩ : ∃ x, Snp.numberP d.data.toList = x := ⟨_, rfl⟩
  rw [hx] at hnum ⊢
  obtain ⟨v, ok⟩ := x
  clear hd hb hd2 e hx
  simp only at hnum ⊢
  cases b
  · simp only [Bool.false_and]
    go_enter Tryz.func40, Tryz.ntmps40
    go_wp2_with fail
    refine (hcp _).out.mono ?_
    rintro e w1 ⟨rfl, rfl⟩
    go_wp2_with fail
    refine (hnum _).out.mono ?_
    rintro e w1 ⟨rfl, rfl⟩
    go_wp2
    go_ret2
    exact ⟨rfl, rfl⟩
  · cases ok
    · simp only [Bool.and_false, Bool.false_and]
      rw [codeOf_false] at hnum
      go_enter Tryz.func40, Tryz.ntmps40
      go_wp2_with fail
      refine (hcp _).out.mono ?_
      rintro e w1 ⟨rfl, rfl⟩
      go_wp2_with fail
      refine (hnum _).out.mono ?_
      rintro e w1 ⟨rfl, rfl⟩
      go_wp2
      go_ret2
      exact ⟨rfl, rfl⟩
    · simp only [Bool.and_true, Bool.true_and]
      rw [codeOf_true] at hnum
      go_enter Tryz.func40, Tryz.ntmps40
      go_wp2_with fail
      refine (hcp _).out.mono ?_
      rintro e w1 ⟨rfl, rfl⟩
      go_wp2_with fail
      refine (hnum _).out.mono ?_
      rintro e w1 ⟨rfl, rfl⟩
      go_wp2
      go_ret2
      exact ⟨rfl, rfl⟩
theorem digB_size' (k : Nat) (hk : k ≤ 9223372036854775807) : (digB k).size ≤ 20 := by
  have := (Snp.digs_len k (by omega)).2
  rw [← len_data, digB_data]
  exact this
theorem datas_snoc (ds : List ByteArray) (s : ByteArray) : Sm.datas (ds ++ [s]) = Sm.datas ds ++ [s.data.toList] := by simp [Sm.datas]
theorem chunks_small (r : ByteArray) (h : r.size ≤ 60000) : Snp.chunks r.data.toList = [r.data.toList] := by
  have hl := len_data r
  rw [Snp.chunks_eq, List.take_of_length_le (by omega), List.drop_eq_nil_of_le (by omega)]
  rfl
theorem chunks_great (r : ByteArray) (h : 60000 < r.size) : Snp.chunks r.data.toList = (r.extract 0 60000).data.toList :: Snp.chunks (r.extract 60000 r.size).data.toList := by
  have hl := len_data r
  have hne : (r.data.toList.drop 60000).isEmpty = false := by
    cases hd : r.data.toList.drop 60000 with
    | nil => have := congrArg List.length hd; simp at this; omega
    | cons a l => rfl
  rw [Snp.chunks_eq, hne, if_neg (by decide), Sm.extract_data', Sm.extract_tail]
  simp
set_option maxHeartbeats 2000000 in
theorem lay_any (s : ByteArray) (hs : s.size ≤ 100000000) (w : World) :
    Calls Tryz.prog 46 #[.string s] w fun e w' => e = .returned (.string (layBA s)) ∧ Below w.heap.size w w' := by
  obtain ⟨i0, hinf, hz0, hz1, hz2⟩ := info_parts info_string
  have hdg := fun W => Lib.hid (digits_any s.size (by omega) W)
  have hcl := (Snp.chunks_all _ s.data.toList (Nat.le_refl _)).2.2
  rw [len_data] at hcl
  go_enter Tryz.func46, Tryz.ntmps46
  go_wp2
  go_loopw [3, 4] (fun l r wr => ∃ (ds : List ByteArray) (k : Nat) (y : ByteArray), r = .string y ∧ ds.length = k ∧ k ≤ 2000 ∧ y.size ≤ 100000000 ∧ Hid (Snp.chunks s.data.toList = Sm.datas ds ++ Snp.chunks y.data.toList) ∧ Hid (wr.ownsRow w.heap.size 9 1 l k (strs ds)) ∧ Hid (Below w.heap.size w wr)) (fun _ r _ => match r with | .string y => y.size | _ => 0)
  case atStart => exact ⟨[], 0, s, rfl, rfl, by omega, hs, rfl, World.ownsRow_nil _ _ _ _, Below.refl _ _⟩
  case round =>
    obtain ⟨ds, k, y, rfl, hk, hk2, hy, HC, HO, HB⟩ := hrel
    have hsz := HB.out.size
    obtain ⟨A2, c2, rfl, hc2⟩ := own_form HO.out
    have hown := HO.out
    obtain ⟨n, hmin, hn, hn6⟩ : ∃ n : Nat, min (y.size : Int) 60000 = (n : Int) ∧ n ≤ y.size ∧ ((y.size ≤ 60000 ∧ n = y.size) ∨ (60000 < y.size ∧ n = 60000)) := by
      by_cases h6 : y.size ≤ 60000
      · exact ⟨y.size, by omega, Nat.le_refl _, .inl ⟨h6, rfl⟩⟩
      · exact ⟨60000, by omega, by omega, .inr ⟨by omega, rfl⟩⟩
    have HN6 := Lib.hid hn6
    obtain ⟨x, hx⟩ : ∃ x, y.extract 0 n = x := ⟨_, rfl⟩
    obtain ⟨z, hz⟩ : ∃ z, y.extract n y.size = z := ⟨_, rfl⟩
    have HX := Lib.hid hx
    have HZ := Lib.hid hz
    clear hn6
    go_wp2_with (at_builtin; refine wpList_append_any _ rfl _ _ 22 rfl w.heap.size 9 i0 (.string ⟨#[]⟩) 1 16 Tryz.underlying22 hinf hz0 hz1 hz2 rfl (by decide) _ _ _ rfl (hown.alloc _) (wr.heap.size + 1) (some ⟨wr.heap.size, 0, none⟩) 1 1 [.string x] rfl ?c1 ?c2 ?c3 ?c4 ?c5 ?_)
    case c1 => exact reads_newV wr _ _ _ rfl rfl rfl (Nat.lt_succ_self _)
    case c2 => simp [Value.oneCell']
    case c3 => unfold maxLen; omega
    case c4 => omega
    case c5 => simp; omega
    intro v4 w4 hown4 hgrow4 hlink4
    have HB4 : Hid (Below w.heap.size w w4) := by
      show Below _ _ _
      refine (HB.out.alloc hsz _).trans ⟨hgrow4.os, hgrow4.tape, hgrow4.output, hgrow4.size, fun q hq => hgrow4.block q (by simp; omega) (fun e => ?_)⟩
      have := (hown.lt q e.symm).1
      omega
    have HO4 : Hid (w4.ownsRow w.heap.size 9 1 v4 (k + 1) (strs (ds ++ [x]))) := by
      show World.ownsRow _ _ _ _ _ _ _
      rw [strs_append]
      exact hown4
    have hk1 : (ds ++ [x]).length = k + 1 := by rw [List.length_append, hk]; rfl
    have HC0 := HC
    have hdl : (Sm.datas ds).length = k := by rw [← hk]; simp [Sm.datas]
    rcases HN6.out with ⟨h6, hn6⟩ | ⟨h6, hn6⟩
    · have hxy : x = y := by rw [← HX.out, hn6]; exact extract_whole _
      have hz0' : z.toList.isEmpty = true := by
        rw [← HZ.out, hn6, ByteArray.toList_eq, Sm.extract_tail, List.drop_eq_nil_of_le (by rw [len_data]; exact Nat.le_refl _)]
        rfl
      have HC4 : Hid (Snp.chunks s.data.toList = Sm.datas (ds ++ [x])) := by
        show _ = _
        rw [HC.out, chunks_small y h6, datas_snoc, hxy]
      clear hgrow4 hlink4 hown4 hown HC HC0 HO HB hxy HX HZ HN6 h6 hn6
      obtain ⟨A4, c4, rfl, hc4⟩ := own_form HO4.out
      have hsz4 := HB4.out.size
      go_wp2_with fail
      refine (hdg _).out.mono ?_
      rintro e w5 ⟨rfl, hb5⟩
      have hown5 := Wi.ownsRow_keep HO4.out (fun q hq => hb5.block q (HO4.out.lt q hq).2)
      have HB5 := Lib.hid (HB4.out.trans (hb5.mono hsz4))
      have hsz5 := HB5.out.size
      have hds := digB_size' s.size (by omega)
      have hsa : (⟨#[101, 110, 100]⟩ : ByteArray).size + (digB s.size).size ≤ 9223372036854775807 := by have : (⟨#[101, 110, 100]⟩ : ByteArray).size = 3 := rfl; omega
      obtain ⟨mk, hmk⟩ : ∃ mk : ByteArray, (⟨#[101, 110, 100]⟩ : ByteArray) ++ digB s.size = mk := ⟨_, rfl⟩
      have HMK := Lib.hid hmk
      clear hmk hb5 HO4 HB4
      go_wp2_with (at_builtin; refine wpList_append_any _ rfl _ _ 22 rfl w.heap.size 9 i0 (.string ⟨#[]⟩) 1 16 Tryz.underlying22 hinf hz0 hz1 hz2 rfl (by decide) _ _ _ rfl (hown5.alloc _) (w5.heap.size + 1) (some ⟨w5.heap.size, 0, none⟩) 1 1 [.string ((⟨#[101, 110, 100]⟩ : ByteArray) ++ digB s.size)] rfl ?c1 ?c2 ?c3 ?c4 ?c5 ?_)
      case c1 => exact reads_newV w5 _ _ _ rfl rfl rfl (Nat.lt_succ_self _)
      case c2 => simp [Value.oneCell']
      case c3 => unfold maxLen; omega
      case c4 => omega
      case c5 => simp; omega
      intro v6 w6 hown6 hgrow6 hlink6
      rw [HMK.out] at hown6
      have HB6 : Hid (Below w.heap.size w w6) := by
        show Below _ _ _
        refine (HB5.out.alloc hsz5 _).trans ⟨hgrow6.os, hgrow6.tape, hgrow6.output, hgrow6.size, fun q hq => hgrow6.block q (by simp; omega) (fun e => ?_)⟩
        have := (hown5.lt q e.symm).1
        omega
      obtain ⟨A6, c6, rfl, hc6⟩ := own_form hown6
      have hlen : (ds ++ [x] ++ [mk]).length = k + 1 + 1 := by rw [List.length_append, hk1]; rfl
      have hrd : Reads w6 w6.heap.size 1 A6 (ds ++ [x] ++ [mk]).length (strs (ds ++ [x] ++ [mk])) := by
        rw [hlen, strs_append]
        exact Reads.of_own hown6
      have hmks : mk.size ≤ 23 := by
        rw [← HMK.out, size_app']
        have : (⟨#[101, 110, 100]⟩ : ByteArray).size = 3 := rfl
        omega
      have hall : Sm.datas (ds ++ [x] ++ [mk]) = Snp.layL s.data.toList := by
        rw [datas_snoc, ← HC4.out, ← HMK.out, Sm.data_append, digB_data, Snp.layL, len_data]
        rfl
      have htt : total (ds ++ [x]) = s.size := by
        rw [← Sm.datas_total, ← HC4.out, Snp.total_flat, (Snp.chunks_all _ s.data.toList (Nat.le_refl _)).1, len_data]
      have q := Sm.frame_any (ds ++ [x] ++ [mk]) A6 c6 w6 hrd (by rw [total_append, htt, hlen, total_cons, total_nil]; omega)
      rw [hall, hlen] at q
      have hres : (⟨(Sum.frames (Snp.layL s.data.toList)).toArray⟩ : ByteArray) = layBA s := rfl
      rw [hres] at q
      clear hgrow6 hlink6 hown6 hown5 hrd hlen hmks hall htt hres HMK HB5 HC4
      go_wp2_with fail
      refine q.mono ?_
      rintro e w7 ⟨rfl, hb7⟩
      have HB7 := Lib.hid (HB6.out.trans (hb7.mono HB6.out.size))
      clear hb7 q
      go_wp2
      go_ret
      exact ⟨rfl, HB7.out⟩
    · have hz0' : z.toList.isEmpty = false := by
        rw [← HZ.out, hn6, ByteArray.toList_eq, Sm.extract_tail]
        cases hd : y.data.toList.drop 60000 with
        | nil => have h8 := congrArg List.length hd; have := len_data y; simp at h8; omega
        | cons a l => rfl
      have hzs : z.size = y.size - 60000 := by rw [← HZ.out, hn6, Sm.extract_size _ _ _ (Nat.le_refl _)]
      have HC4 : Hid (Snp.chunks s.data.toList = Sm.datas (ds ++ [x]) ++ Snp.chunks z.data.toList) := by
        show _ = _
        rw [HC.out, chunks_great y h6, datas_snoc, ← HX.out, ← HZ.out, hn6]
        simp
      have hk3 : k + 1 ≤ 2000 := by
        have h9 := HC4.out
        rw [h9, List.length_append, datas_snoc, List.length_append, hdl] at hcl
        simp only [List.length_cons, List.length_nil] at hcl
        omega
      have HZS : Hid (z.size < y.size ∧ z.size ≤ 100000000) := by show _ ∧ _; omega
      clear hgrow4 hlink4 hown4 hown HC HC0 HO HB HX HZ HN6 h6 hn6 hzs
      go_wp2
      go_roundw
      case rel => exact ⟨_, k + 1, z, rfl, hk1, hk3, HZS.out.2, HC4.out, HO4.out, HB4.out⟩
      case measure => exact HZS.out.1
end Go.Proofs.YtjhinifmdjlblaaGreat
