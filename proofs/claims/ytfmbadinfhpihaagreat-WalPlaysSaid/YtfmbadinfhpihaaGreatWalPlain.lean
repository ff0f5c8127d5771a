/-
  The plain law of package wal: groups of records as frames, and what is found of them in bytes, whole or cut.
  Conditions: records of less than 60000 bytes. No program is in sight here.
-/
set_option linter.unusedVariables false
set_option linter.unusedSimpArgs false

namespace Go.Proofs.YtfmbadinfhpihaaGreat
namespace Sum
abbrev Bs := List UInt8

def bit (x : Nat) : Nat := if x % 2 = 1 then (x / 2) ^^^ 3988292384 else x / 2
def bitN : Nat → Nat → Nat
  | 0, x => x
  | j + 1, x => bit (bitN j x)
def byte (x : Nat) (b : UInt8) : Nat := bitN 8 (x ^^^ b.toNat)
def crcFrom (x : Nat) (l : Bs) : Nat := l.foldl byte x
def crc (l : Bs) : Nat := 4294967295 - crcFrom 4294967295 l

theorem xor_lt {x y : Nat} (hx : x < 4294967296) (hy : y < 4294967296) : x ^^^ y < 4294967296 := Nat.xor_lt_two_pow (n := 32) hx hy
theorem bit_lt {x : Nat} (h : x < 4294967296) : bit x < 4294967296 := by
  unfold bit
  split
  · exact xor_lt (by omega) (by decide)
  · omega
theorem bitN_lt {x : Nat} (h : x < 4294967296) : ∀ j, bitN j x < 4294967296
  | 0 => h
  | j + 1 => bit_lt (bitN_lt h j)
theorem u8_lt (b : UInt8) : b.toNat < 256 := b.toNat_lt
theorem byte_lt {x : Nat} (h : x < 4294967296) (b : UInt8) : byte x b < 4294967296 :=
  bitN_lt (xor_lt h (by have := u8_lt b; omega)) 8
theorem crcFrom_lt {x : Nat} (h : x < 4294967296) (l : Bs) : crcFrom x l < 4294967296 := by
  induction l generalizing x with
  | nil => exact h
  | cons b l ih => exact ih (byte_lt h b)
theorem crc_lt (l : Bs) : crc l < 4294967296 := by unfold crc; omega
theorem crcFrom_append (x : Nat) (a b : Bs) : crcFrom x (a ++ b) = crcFrom (crcFrom x a) b := by simp [crcFrom]
theorem crc_nil : crc [] = 0 := rfl

theorem xor_cancel {a b c : Nat} (h : a ^^^ c = b ^^^ c) : a = b := by
  have h2 : (a ^^^ c) ^^^ c = (b ^^^ c) ^^^ c := by rw [h]
  simpa [Nat.xor_assoc] using h2
theorem top_set {x : Nat} (h : x < 4294967296) : 2147483648 ≤ (x / 2) ^^^ 3988292384 := by
  have h1 : ((x / 2) ^^^ 3988292384).testBit 31 = true := by
    rw [Nat.testBit_xor, Nat.testBit_lt_two_pow (x := x / 2) (i := 31) (by omega)]
    decide
  exact Nat.ge_two_pow_of_testBit h1
theorem bit_inj {x y : Nat} (hx : x < 4294967296) (hy : y < 4294967296) (h : bit x = bit y) : x = y := by
  unfold bit at h
  have tx := top_set hx
  have ty := top_set hy
  split at h <;> split at h
  · have := xor_cancel h; omega
  · omega
  · omega
  · omega
theorem bitN_inj {x y : Nat} (hx : x < 4294967296) (hy : y < 4294967296) : ∀ j, bitN j x = bitN j y → x = y
  | 0, h => h
  | j + 1, h => bitN_inj hx hy j (bit_inj (bitN_lt hx j) (bitN_lt hy j) h)
theorem byte_inj {x y : Nat} {b : UInt8} (hx : x < 4294967296) (hy : y < 4294967296) (h : byte x b = byte y b) : x = y := by
  have hb := u8_lt b
  exact xor_cancel (bitN_inj (xor_lt hx (by omega)) (xor_lt hy (by omega)) 8 h)
theorem byte_inj' {x : Nat} {b c : UInt8} (hx : x < 4294967296) (h : byte x b = byte x c) : b = c := by
  have hb := u8_lt b
  have hc := u8_lt c
  have h1 := bitN_inj (xor_lt hx (by omega)) (xor_lt hx (by omega)) 8 h
  rw [Nat.xor_comm x, Nat.xor_comm x] at h1
  exact UInt8.toNat_inj.1 (xor_cancel h1)
theorem crcFrom_inj {x y : Nat} (hx : x < 4294967296) (hy : y < 4294967296) (l : Bs) (h : crcFrom x l = crcFrom y l) : x = y := by
  induction l generalizing x y with
  | nil => exact h
  | cons b l ih => exact byte_inj hx hy (ih (byte_lt hx b) (byte_lt hy b) h)
/-- One byte changed: another sum. -/
theorem crc_change (l r : Bs) {b c : UInt8} (hne : b ≠ c) : crc (l ++ b :: r) ≠ crc (l ++ c :: r) := by
  intro h
  have h0 : (4294967295 : Nat) < 4294967296 := by decide
  have ha := crcFrom_lt h0 (l ++ b :: r)
  have hb := crcFrom_lt h0 (l ++ c :: r)
  have h1 : crcFrom 4294967295 (l ++ b :: r) = crcFrom 4294967295 (l ++ c :: r) := by unfold crc at h; omega
  rw [crcFrom_append, crcFrom_append] at h1
  have hl := crcFrom_lt h0 l
  exact hne (byte_inj' hl (crcFrom_inj (byte_lt hl b) (byte_lt hl c) r h1))

def four (n : Nat) : Bs := [UInt8.ofNat (n / 16777216), UInt8.ofNat (n / 65536), UInt8.ofNat (n / 256), UInt8.ofNat n]
def num : Bs → Nat
  | a :: b :: c :: d :: _ => a.toNat * 16777216 + b.toNat * 65536 + c.toNat * 256 + d.toNat
  | _ => 0
theorem four_length (n : Nat) : (four n).length = 4 := rfl
theorem num_four {n : Nat} (h : n < 4294967296) (r : Bs) : num (four n ++ r) = n := by
  simp only [four, num, List.cons_append, UInt8.toNat_ofNat']
  omega
theorem num_lt (b : Bs) : num b < 4294967296 := by
  unfold num
  split
  · rename_i a b c d _
    have := u8_lt a; have := u8_lt b; have := u8_lt c; have := u8_lt d
    omega
  · decide
theorem four_num {b : Bs} (h : 4 ≤ b.length) : four (num b) = b.take 4 := by
  match b, h with
  | a :: b :: c :: d :: r, _ =>
    have := u8_lt a; have := u8_lt b; have := u8_lt c; have := u8_lt d
    simp only [four, num, List.take_succ_cons, List.take_zero]
    congr 1
    · apply UInt8.toNat_inj.1; rw [UInt8.toNat_ofNat']; omega
    congr 1
    · apply UInt8.toNat_inj.1; rw [UInt8.toNat_ofNat']; omega
    congr 1
    · apply UInt8.toNat_inj.1; rw [UInt8.toNat_ofNat']; omega
    congr 1
    · apply UInt8.toNat_inj.1; rw [UInt8.toNat_ofNat']; omega
theorem four_inj {a b : Nat} (ha : a < 4294967296) (hb : b < 4294967296) (h : four a = four b) : a = b := by
  have := num_four ha []
  rw [h, num_four hb] at this
  exact this.symm

def frame (s : Bs) : Bs := four s.length ++ (four (crc s) ++ s)
def frames (l : List Bs) : Bs := (l.map frame).flatten
theorem frame_length (s : Bs) : (frame s).length = s.length + 8 := by simp [frame, four_length]; omega
theorem frames_nil : frames [] = [] := rfl
theorem frames_cons (s : Bs) (l : List Bs) : frames (s :: l) = frame s ++ frames l := by simp [frames]
theorem frames_append (a b : List Bs) : frames (a ++ b) = frames a ++ frames b := by simp [frames]
def total (l : List Bs) : Nat := (l.map List.length).sum
theorem frames_length (l : List Bs) : (frames l).length = total l + 8 * l.length := by
  induction l with
  | nil => rfl
  | cons s l ih => rw [frames_cons, List.length_append, frame_length, ih]; simp [total]; omega

/-- The whole record at the front of bytes, if there is one. -/
def head (b : Bs) : Option Bs :=
  if 8 ≤ b.length ∧ num b ≤ 60000 ∧ num b ≤ b.length - 8 ∧ crc ((b.drop 8).take (num b)) = num (b.drop 4) then some ((b.drop 8).take (num b)) else none
def scanN : Nat → Bs → List Bs × Nat
  | 0, _ => ([], 0)
  | f + 1, b => match head b with
    | none => ([], 0)
    | some s => (s :: (scanN f (b.drop (8 + s.length))).1, 8 + s.length + (scanN f (b.drop (8 + s.length))).2)
def scan (b : Bs) : List Bs × Nat := scanN (b.length + 1) b

theorem head_some {b s : Bs} (h : head b = some s) : 8 ≤ b.length ∧ s.length = num b ∧ num b ≤ 60000 ∧ 8 + s.length ≤ b.length ∧ crc s = num (b.drop 4) ∧ s = (b.drop 8).take (num b) := by
  unfold head at h
  split at h
  · rename_i hc
    obtain ⟨h1, h2, h3, h4⟩ := hc
    injection h with h
    subst h
    have hl : ((b.drop 8).take (num b)).length = num b := by simp; omega
    exact ⟨h1, hl, h2, by omega, h4, rfl⟩
  · cases h
theorem scanN_more : ∀ (f g : Nat) (b : Bs), b.length < f → b.length < g → scanN f b = scanN g b
  | 0, _, _, h, _ => by omega
  | _, 0, _, _, h => by omega
  | f + 1, g + 1, b, hf, hg => by
    unfold scanN
    cases hh : head b with
    | none => rfl
    | some s =>
      have h1 := head_some hh
      have : (b.drop (8 + s.length)).length < f := by simp; omega
      have h2 : (b.drop (8 + s.length)).length < g := by simp; omega
      simp only [scanN_more f g _ this h2]
theorem scan_none {b : Bs} (h : head b = none) : scan b = ([], 0) := by unfold scan scanN; rw [h]
theorem scan_some {b s : Bs} (h : head b = some s) : scan b = (s :: (scan (b.drop (8 + s.length))).1, 8 + s.length + (scan (b.drop (8 + s.length))).2) := by
  have h1 := head_some h
  have hl : (b.drop (8 + s.length)).length = b.length - (8 + s.length) := by simp
  have e : scanN b.length (b.drop (8 + s.length)) = scan (b.drop (8 + s.length)) := by
    unfold scan
    exact scanN_more _ _ _ (by omega) (by omega)
  conv => lhs; unfold scan scanN
  rw [h]
  simp only [e]
theorem scan_short {b : Bs} (h : b.length < 8) : scan b = ([], 0) := scan_none (by unfold head; rw [if_neg (by omega)])
theorem head_frame {s : Bs} (h : s.length ≤ 60000) (r : Bs) : head (frame s ++ r) = some s := by
  have hn : num (frame s ++ r) = s.length := by
    unfold frame
    rw [List.append_assoc]
    exact num_four (by omega) _
  have h8 : (frame s ++ r).drop 8 = s ++ r := by
    simp [frame, four]
  have h4 : num ((frame s ++ r).drop 4) = crc s := by
    have : (frame s ++ r).drop 4 = four (crc s) ++ (s ++ r) := by simp [frame, four]
    rw [this]
    exact num_four (crc_lt s) _
  have hl : (frame s ++ r).length = s.length + 8 + r.length := by rw [List.length_append, frame_length]
  have ht : (s ++ r).take s.length = s := by simp
  unfold head
  rw [hn, h8, h4, ht, if_pos ⟨by omega, h, by omega, rfl⟩]
theorem scan_frame {s : Bs} (h : s.length ≤ 60000) (r : Bs) : scan (frame s ++ r) = (s :: (scan r).1, (frame s).length + (scan r).2) := by
  rw [scan_some (head_frame h r)]
  have : (frame s ++ r).drop (8 + s.length) = r := by
    rw [show 8 + s.length = (frame s).length from by rw [frame_length]; omega]
    simp
  rw [this, frame_length, Nat.add_comm 8]
theorem scan_frames {l : List Bs} (h : ∀ s ∈ l, s.length ≤ 60000) (r : Bs) : scan (frames l ++ r) = (l ++ (scan r).1, (frames l).length + (scan r).2) := by
  induction l with
  | nil => simp [frames_nil]
  | cons s l ih =>
    rw [frames_cons, List.append_assoc, scan_frame (h s (by simp)), ih (fun t ht => h t (by simp [ht]))]
    simp [Nat.add_assoc]
/-- What is found stands framed at the front, and goes no further than the bytes. -/
theorem scan_stands (n : Nat) : ∀ b : Bs, b.length ≤ n → (scan b).2 ≤ b.length ∧ frames (scan b).1 = b.take (scan b).2 := by
  induction n with
  | zero =>
    intro b hb
    rw [scan_short (by omega)]
    simp [frames_nil]
  | succ n ih =>
    intro b hb
    cases hh : head b with
    | none => rw [scan_none hh]; simp [frames_nil]
    | some s =>
      obtain ⟨h8, hl, _, hle, hc, hs⟩ := head_some hh
      have hd : (b.drop (8 + s.length)).length = b.length - (8 + s.length) := by simp
      obtain ⟨i1, i2⟩ := ih (b.drop (8 + s.length)) (by omega)
      rw [scan_some hh]
      refine ⟨by simp only; omega, ?_⟩
      simp only [frames_cons, i2]
      have hf : frame s = b.take (8 + s.length) := by
        unfold frame
        rw [hl, four_num (b := b) (by omega), hc, four_num (b := b.drop 4) (by simp; omega)]
        conv => lhs; rw [hs]
        have h1 : b.take (8 + num b) = b.take 4 ++ ((b.drop 4).take 4 ++ (b.drop 8).take (num b)) := by
          rw [show 8 + num b = 4 + (4 + num b) from by omega, List.take_add, List.take_add, List.drop_drop]
        rw [h1]
      rw [hf, ← List.take_add]
theorem scan_le (b : Bs) : (scan b).2 ≤ b.length := (scan_stands _ b (Nat.le_refl _)).1
theorem scan_framed (b : Bs) : frames (scan b).1 = b.take (scan b).2 := (scan_stands _ b (Nat.le_refl _)).2
/-- Cut within frames: a first part of them is found. -/
theorem scan_cut {l : List Bs} (h : ∀ s ∈ l, s.length ≤ 60000) (cut : Nat) (hc : cut < (frames l).length) : (scan ((frames l).take cut)).1 = l.take (scan ((frames l).take cut)).1.length ∧ (scan ((frames l).take cut)).1.length ≤ l.length := by
  induction l generalizing cut with
  | nil => simp [frames_nil] at hc
  | cons s l ih =>
    rw [frames_cons] at hc ⊢
    have hs := h s (by simp)
    by_cases hlt : cut < (frame s).length
    · have hn : head ((frame s ++ frames l).take cut) = none := by
        rw [List.take_append_of_le_length (by omega)]
        by_cases h8 : cut < 8
        · unfold head; rw [if_neg (by simp; omega)]
        · have hn : num ((frame s).take cut) = s.length := by
            have : (frame s).take cut = four s.length ++ (four (crc s) ++ s).take (cut - 4) := by
              unfold frame
              rw [List.take_append, four_length, List.take_of_length_le (by rw [four_length]; omega)]
            rw [this]
            exact num_four (by omega) _
          rw [frame_length] at hlt
          have hlen : ((frame s).take cut).length = cut := by rw [List.length_take, frame_length]; omega
          unfold head
          rw [if_neg (by rw [hn, hlen]; omega)]
      rw [scan_none hn]
      simp
    · have ht : (frame s ++ frames l).take cut = frame s ++ (frames l).take (cut - (frame s).length) := by
        rw [List.take_append, List.take_of_length_le (by omega)]
      rw [ht, scan_frame hs]
      have hi := ih (fun t h' => h t (by simp [h'])) (cut - (frame s).length) (by rw [List.length_append] at hc; omega)
      refine ⟨?_, by simpa using hi.2⟩
      simp only [List.length_cons, List.take_succ_cons]
      rw [← hi.1]

theorem set_split (l : Bs) (k : Nat) (h : k < l.length) (c : UInt8) : ∃ a r, l = a ++ l[k] :: r ∧ l.set k c = a ++ c :: r ∧ a.length = k := by
  refine ⟨l.take k, l.drop (k + 1), ?_, ?_, by simp; omega⟩
  · rw [List.getElem_cons_drop]; simp
  · rw [List.set_eq_take_append_cons_drop, if_pos h]
/-- A frame of which one byte is changed is not found as it was: changed in the sum or the record, nothing is found; changed in the length, no record of that length. -/
theorem scan_changed {s : Bs} (hs : s.length ≤ 60000) (k : Nat) (hk : k < s.length + 8) (c : UInt8) (hne : (frame s)[k]'(by rw [frame_length]; exact hk) ≠ c) :
    ((scan ((frame s).set k c)).1 = [s] → False) ∧ (4 ≤ k → scan ((frame s).set k c) = ([], 0)) := by
  have hlen : ((frame s).set k c).length = s.length + 8 := by rw [List.length_set, frame_length]
  have hfk : (frame s)[k]? = some ((frame s)[k]'(by rw [frame_length]; exact hk)) := List.getElem?_eq_getElem _
  generalize hb : (frame s).set k c = b at *
  have hbk : b[k]? = some c := by rw [← hb, List.getElem?_set_self (by rw [frame_length]; exact hk)]
  have hbo : ∀ j, j ≠ k → b[j]? = (frame s)[j]? := fun j hj => by rw [← hb, List.getElem?_set_ne (by omega)]
  have hf4 : (frame s).take 4 = four s.length := by simp [frame, four]
  have hf8 : ((frame s).drop 4).take 4 = four (crc s) := by simp [frame, four]
  have hfd : (frame s).drop 8 = s := by simp [frame, four]
  refine ⟨fun hsc => ?_, fun h4 => ?_⟩
  · cases hh : head b with
    | none => rw [scan_none hh] at hsc; simp at hsc
    | some t =>
      obtain ⟨h8, hl, _, _, hc, ht⟩ := head_some hh
      rw [scan_some hh] at hsc
      simp only [List.cons.injEq] at hsc
      obtain ⟨rfl, hrest⟩ := hsc
      -- the length, the sum and the record are those of the frame: so the bytes are
      have e1 : b.take 4 = four t.length := by rw [← four_num (b := b) (by omega), hl]
      have e2 : (b.drop 4).take 4 = four (crc t) := by rw [hc, four_num (b := b.drop 4) (by simp; omega)]
      have e3 : b.drop 8 = t := by
        have : (b.drop 8).length = t.length := by simp; omega
        rw [← hl] at ht
        rw [ht, List.take_of_length_le (by simp; omega)]
      have : b = frame t := by
        have e : b = b.take 4 ++ ((b.drop 4).take 4 ++ b.drop 8) := by
          rw [show b.drop 8 = (b.drop 4).drop 4 from by rw [List.drop_drop], List.take_append_drop, List.take_append_drop]
        rw [e, e1, e2, e3]; rfl
      rw [this, hfk] at hbk
      injection hbk with hbk
      exact hne hbk
  · apply scan_none
    have hn : num b = s.length := by
      have h1 : b.take 4 = four s.length := by
        rw [← hf4]
        apply List.ext_getElem?
        intro j
        rw [List.getElem?_take, List.getElem?_take]
        split
        · exact hbo j (by omega)
        · rfl
      have h2 : b = four s.length ++ b.drop 4 := by rw [← h1, List.take_append_drop]
      rw [h2]
      exact num_four (by omega) _
    unfold head
    rw [if_neg]
    rw [hn]
    rintro ⟨_, _, _, hc⟩
    rw [List.take_of_length_le (by simp; omega)] at hc
    by_cases h8 : k < 8
    · have hd : b.drop 8 = s := by
        rw [← hfd]
        apply List.ext_getElem?
        intro j
        rw [List.getElem?_drop, List.getElem?_drop]
        exact hbo _ (by omega)
      rw [hd] at hc
      have e2 : (b.drop 4).take 4 = four (crc s) := by rw [hc, four_num (b := b.drop 4) (by simp; omega)]
      have e3 : (b.drop 4).take 4 = ((frame s).drop 4).take 4 := by rw [e2, hf8]
      have e4 := congrArg (fun l => l[k - 4]?) e3
      simp only [List.getElem?_take, List.getElem?_drop] at e4
      rw [if_pos (by omega), if_pos (by omega), show 4 + (k - 4) = k from by omega, hbk, hfk] at e4
      injection e4 with e4
      exact hne e4.symm
    · have e2 : num (b.drop 4) = crc s := by
        have h1 : (b.drop 4).take 4 = four (crc s) := by
          rw [← hf8]
          apply List.ext_getElem?
          intro j
          rw [List.getElem?_take, List.getElem?_take]
          split
          · rw [List.getElem?_drop, List.getElem?_drop]
            exact hbo _ (by omega)
          · rfl
        have h2 : b.drop 4 = four (crc s) ++ (b.drop 4).drop 4 := by rw [← h1, List.take_append_drop]
        rw [h2]
        exact num_four (crc_lt s) _
      rw [e2] at hc
      have hks : k - 8 < s.length := by omega
      obtain ⟨a, r, hsa, hset, hal⟩ := set_split s (k - 8) hks c
      have hbd : b.drop 8 = s.set (k - 8) c := by
        rw [← hb]
        have : ((frame s).set k c).drop 8 = ((frame s).drop 8).set (k - 8) c := by
          rw [List.drop_set, if_neg (by omega)]
        rw [this, hfd]
      have hsk : s[k - 8] ≠ c := by
        have : (frame s)[k]? = s[k - 8]? := by
          rw [← hfd, List.getElem?_drop, show 8 + (k - 8) = k from by omega]
          simp [hfd]
        rw [hfk, List.getElem?_eq_getElem hks] at this
        injection this with this
        rw [← this]
        exact hne
      rw [hbd, hset] at hc
      conv at hc => rhs; rw [hsa]
      exact crc_change a r (fun e => hsk e.symm) hc
end Sum
end Go.Proofs.YtfmbadinfhpihaaGreat
namespace Go.Proofs.YtfmbadinfhpihaaGreat
namespace Wire
abbrev Bs := List UInt8

/-! ### doubling -/
def zz (v : Int) : Nat := if 0 ≤ v then (2 * v).toNat else (-2 * v - 1).toNat
def unzz (n : Nat) : Int := if n % 2 = 0 then (n / 2 : Nat) else -((n / 2 : Nat) : Int) - 1
theorem zz_lt {v : Int} (h1 : -9223372036854775808 ≤ v) (h2 : v ≤ 9223372036854775807) : zz v < 18446744073709551616 := by unfold zz; split <;> omega
theorem unzz_zz (v : Int) : unzz (zz v) = v := by unfold unzz zz; split <;> split <;> omega
theorem zz_unzz (n : Nat) : zz (unzz n) = n := by unfold unzz zz; split <;> split <;> omega
theorem unzz_range {n : Nat} (h : n < 18446744073709551616) : -9223372036854775808 ≤ unzz n ∧ unzz n ≤ 9223372036854775807 := by unfold unzz; split <;> omega
theorem zz_inj {a b : Int} (h : zz a = zz b) : a = b := by rw [← unzz_zz a, h, unzz_zz]

/-! ### groups -/
def encF : Nat → Nat → Bs
  | 0, n => [UInt8.ofNat n]
  | f + 1, n => if n < 128 then [UInt8.ofNat n] else UInt8.ofNat (n % 128 + 128) :: encF f (n / 128)
def enc (n : Nat) : Bs := encF 9 n
theorem encF_pos (f n : Nat) : 0 < (encF f n).length := by cases f <;> unfold encF <;> (try split) <;> simp
theorem encF_le (f n : Nat) : (encF f n).length ≤ f + 1 := by
  induction f generalizing n with
  | zero => simp [encF]
  | succ f ih => unfold encF; split <;> simp; exact ih _
theorem enc_pos (n : Nat) : 0 < (enc n).length := encF_pos _ _
theorem enc_le (n : Nat) : (enc n).length ≤ 10 := encF_le _ _
theorem encF_small {f n : Nat} (h : n < 128) : encF f n = [UInt8.ofNat n] := by cases f <;> simp [encF, h]
theorem encF_more {f n : Nat} (h : ¬ n < 128) : encF (f + 1) n = UInt8.ofNat (n % 128 + 128) :: encF f (n / 128) := by simp [encF, h]

/-- A number at the front, read from group i on: the number and how many groups, or an error (4: no such form, 5: too short). -/
def dec (i acc : Nat) : Bs → Except Nat (Nat × Nat)
  | [] => .error 5
  | c :: r => if i = 9 ∧ 1 < c.toNat then .error 4 else if 128 ≤ c.toNat then dec (i + 1) (acc + c.toNat % 128 * 128 ^ i) r
    else if c.toNat = 0 ∧ 0 < i then .error 4 else .ok (acc + c.toNat * 128 ^ i, i + 1)

theorem ofNat_lt {n : Nat} (h : n < 256) : (UInt8.ofNat n).toNat = n := by rw [UInt8.toNat_ofNat']; omega
theorem pow_split (n i : Nat) : n % 128 * 128 ^ i + n / 128 * 128 ^ (i + 1) = n * 128 ^ i := by
  rw [Nat.pow_succ, Nat.mul_comm (128 ^ i) 128, ← Nat.mul_assoc, ← Nat.add_mul]
  congr 1
  omega

/-- What was laid is read as it was, whatever stands behind it. -/
theorem dec_enc (f : Nat) : ∀ (i acc n : Nat) (r : Bs), i + f = 9 → n < 2 * 128 ^ f → (0 < i → 0 < n) → dec i acc (encF f n ++ r) = .ok (acc + n * 128 ^ i, i + (encF f n).length) := by
  induction f with
  | zero =>
    intro i acc n r hi hn h0
    simp only [Nat.pow_zero, Nat.mul_one] at hn
    have hc : (UInt8.ofNat n).toNat = n := ofNat_lt (by omega)
    simp only [encF, List.singleton_append, dec, hc]
    rw [if_neg (by omega), if_neg (by omega), if_neg (by rintro ⟨rfl, h⟩; exact absurd (h0 h) (by omega))]
    simp
  | succ f ih =>
    intro i acc n r hi hn h0
    by_cases hs : n < 128
    · have hc : (UInt8.ofNat n).toNat = n := ofNat_lt (by omega)
      rw [encF_small hs]
      simp only [List.singleton_append, dec, hc]
      rw [if_neg (by omega), if_neg (by omega), if_neg (by rintro ⟨rfl, h⟩; exact absurd (h0 h) (by omega))]
      simp
    · have hc : (UInt8.ofNat (n % 128 + 128)).toNat = n % 128 + 128 := ofNat_lt (by omega)
      rw [encF_more hs]
      simp only [List.cons_append, dec, hc]
      rw [if_neg (by omega), if_pos (by omega), ih (i + 1) _ (n / 128) r (by omega) (by rw [Nat.pow_succ] at hn; omega) (by omega)]
      have e1 : (n % 128 + 128) % 128 = n % 128 := by omega
      rw [e1, Nat.add_assoc acc, pow_split]
      simp; omega
theorem two64 : (18446744073709551616 : Nat) = 2 * 128 ^ 9 := by decide
theorem dec_enc0 {n : Nat} (h : n < 18446744073709551616) (r : Bs) : dec 0 0 (enc n ++ r) = .ok (n, (enc n).length) := by
  have := dec_enc 9 0 0 n r rfl (by rw [← two64]; exact h) (by omega)
  simpa [enc] using this
/-- What is cut within a number is short. -/
theorem dec_cut (f : Nat) : ∀ (i acc n j : Nat), i + f = 9 → j < (encF f n).length → dec i acc ((encF f n).take j) = .error 5 := by
  induction f with
  | zero =>
    intro i acc n j _ hj
    simp [encF] at hj
    subst hj
    simp [dec]
  | succ f ih =>
    intro i acc n j hi hj
    by_cases hs : n < 128
    · rw [encF_small hs] at hj ⊢
      simp at hj
      subst hj
      simp [dec]
    · have hc : (UInt8.ofNat (n % 128 + 128)).toNat = n % 128 + 128 := ofNat_lt (by omega)
      rw [encF_more hs] at hj ⊢
      cases j with
      | zero => simp [dec]
      | succ j =>
        simp only [List.length_cons] at hj
        simp only [List.take_succ_cons, dec, hc]
        rw [if_neg (by omega), if_pos (by omega)]
        exact ih (i + 1) _ _ j (by omega) (by omega)
theorem dec_cut0 (n j : Nat) (h : j < (enc n).length) : dec 0 0 ((enc n).take j) = .error 5 := dec_cut 9 0 0 n j rfl h
/-- What is read without an error stands as it would be laid. -/
theorem enc_dec : ∀ (l : Bs) (i f acc N k : Nat), i + f = 9 → dec i acc l = .ok (N, k) → ∃ n, N = acc + n * 128 ^ i ∧ k = i + (encF f n).length ∧ (encF f n).length ≤ l.length ∧ l.take (encF f n).length = encF f n ∧ n < 2 * 128 ^ f ∧ (0 < i → 0 < n) := by
  intro l
  induction l with
  | nil => intro i f acc N k _ h; simp [dec] at h
  | cons c r ih =>
    intro i f acc N k hi h
    have hc := c.toNat_lt
    have hcc : UInt8.ofNat c.toNat = c := by simp
    simp only [dec] at h
    split at h
    · cases h
    · rename_i h9
      split at h
      · rename_i h128
        cases f with
        | zero => omega
        | succ f =>
          obtain ⟨n, rfl, rfl, hl, ht, hn, hp⟩ := ih (i + 1) f _ N k (by omega) h
          have hpos := hp (by omega)
          have hlt : ¬ (c.toNat % 128 + n * 128) < 128 := by omega
          have hm : (c.toNat % 128 + n * 128) % 128 + 128 = c.toNat := by omega
          have hd : (c.toNat % 128 + n * 128) / 128 = n := by omega
          have he : encF (f + 1) (c.toNat % 128 + n * 128) = c :: encF f n := by rw [encF_more hlt, hm, hd, hcc]
          refine ⟨c.toNat % 128 + n * 128, ?_, ?_, ?_, ?_, ?_, by omega⟩
          · rw [← pow_split (c.toNat % 128 + n * 128) i, hd, show (c.toNat % 128 + n * 128) % 128 = c.toNat % 128 from by omega, Nat.add_assoc]
          · rw [he, List.length_cons]; omega
          · rw [he, List.length_cons, List.length_cons]; omega
          · rw [he, List.length_cons, List.take_succ_cons, ht]
          · rw [Nat.pow_succ]; omega
      · rename_i h128
        split at h
        · cases h
        · rename_i hz
          injection h with h
          injection h with h1 h2
          subst h1 h2
          have he : encF f c.toNat = [c] := by rw [encF_small (by omega), hcc]
          refine ⟨c.toNat, rfl, by rw [he]; rfl, by rw [he]; simp, by rw [he]; simp, ?_, by omega⟩
          cases f with
          | zero => simp; omega
          | succ f =>
            have : 1 ≤ 128 ^ f := by have := Nat.pow_le_pow_right (n := 128) (by omega) (Nat.zero_le f); simpa using this
            rw [Nat.pow_succ]; omega
theorem enc_dec0 {l : Bs} {N k : Nat} (h : dec 0 0 l = .ok (N, k)) : k = (enc N).length ∧ k ≤ l.length ∧ l.take k = enc N ∧ N < 18446744073709551616 := by
  obtain ⟨n, rfl, rfl, hl, ht, hn, _⟩ := enc_dec l 0 9 0 N k rfl h
  rw [two64]
  simp only [Nat.zero_add, Nat.pow_zero, Nat.mul_one] at *
  exact ⟨rfl, hl, ht, hn⟩
theorem dec_err : ∀ (l : Bs) (i acc x : Nat), dec i acc l = .error x → x = 4 ∨ x = 5 := by
  intro l
  induction l with
  | nil => intro i acc x h; simp [dec] at h; exact .inr h.symm
  | cons c r ih =>
    intro i acc x h
    simp only [dec] at h
    split at h
    · injection h with h; exact .inl h.symm
    · split at h
      · exact ih _ _ _ h
      · split at h
        · injection h with h; exact .inl h.symm
        · cases h

/-! ### a writer: its error, its bytes -/
def wNum (b : Bs) (v : Int) : Bs := b ++ enc (zz v)
def wNums (b : Bs) (l : List Int) : Bs := l.foldl wNum b
theorem wNums_eq (b : Bs) (l : List Int) : wNums b l = b ++ (l.map fun v => enc (zz v)).flatten := by
  induction l generalizing b with
  | nil => simp [wNums]
  | cons v l ih =>
    have : wNums b (v :: l) = wNums (wNum b v) l := rfl
    rw [this, ih]; simp [wNum]
theorem wNum_len (b : Bs) (v : Int) : (wNum b v).length ≤ b.length + 10 := by
  unfold wNum; rw [List.length_append]; have := enc_le (zz v); omega

/-- A writer's state: its error (0: none) and its bytes. -/
abbrev St := Int × Bs
def stNum (st : St) (v : Int) : St := if st.1 = 0 then (0, wNum st.2 v) else st
def stText (st : St) (s : Bs) : St := if st.1 = 0 then (if 1000 < s.length then (2, st.2) else (0, wNum st.2 s.length ++ s)) else st
def stBool (st : St) (x : Bool) : St := if st.1 = 0 then (0, st.2 ++ [if x then 1 else 0]) else st
def stFail (st : St) (x : Int) : St := if st.1 = 0 then (x, st.2) else st
theorem stNum_off {st : St} (h : st.1 ≠ 0) (l : List Int) : l.foldl stNum st = st := by
  induction l with
  | nil => rfl
  | cons v l ih => simp only [List.foldl_cons]; rw [show stNum st v = st from by simp [stNum, h]]; exact ih
theorem stText_off {st : St} (h : st.1 ≠ 0) (l : List Bs) : l.foldl stText st = st := by
  induction l with
  | nil => rfl
  | cons v l ih => simp only [List.foldl_cons]; rw [show stText st v = st from by simp [stText, h]]; exact ih
theorem stBool_off {st : St} (h : st.1 ≠ 0) (l : List Bool) : l.foldl stBool st = st := by
  induction l with
  | nil => rfl
  | cons v l ih => simp only [List.foldl_cons]; rw [show stBool st v = st from by simp [stBool, h]]; exact ih
theorem stNum_len (st : St) (l : List Int) : (l.foldl stNum st).2.length ≤ st.2.length + 10 * l.length := by
  induction l generalizing st with
  | nil => simp
  | cons v l ih =>
    simp only [List.foldl_cons, List.length_cons]
    have h1 := ih (stNum st v)
    have h2 : (stNum st v).2.length ≤ st.2.length + 10 := by
      unfold stNum; split
      · exact wNum_len _ _
      · omega
    omega
theorem stText_len (st : St) (l : List Bs) : (l.foldl stText st).2.length ≤ st.2.length + 1010 * l.length := by
  induction l generalizing st with
  | nil => simp
  | cons s l ih =>
    simp only [List.foldl_cons, List.length_cons]
    have h1 := ih (stText st s)
    have h2 : (stText st s).2.length ≤ st.2.length + 1010 := by
      unfold stText; split
      · split
        · simp
        · have := wNum_len st.2 s.length; simp only [List.length_append]; omega
      · omega
    omega
theorem stBool_len (st : St) (l : List Bool) : (l.foldl stBool st).2.length ≤ st.2.length + l.length := by
  induction l generalizing st with
  | nil => simp
  | cons x l ih =>
    simp only [List.foldl_cons, List.length_cons]
    have h1 := ih (stBool st x)
    have h2 : (stBool st x).2.length ≤ st.2.length + 1 := by unfold stBool; split <;> simp
    omega
theorem stNum_ok {b : Bs} (l : List Int) : l.foldl stNum ((0, b) : St) = (0, wNums b l) := by
  induction l generalizing b with
  | nil => rfl
  | cons v l ih => simp only [List.foldl_cons]; rw [show stNum (0, b) v = (0, wNum b v) from rfl, ih]; rfl
end Wire
end Go.Proofs.YtfmbadinfhpihaaGreat
namespace Go.Proofs.YtfmbadinfhpihaaGreat
namespace Wal
open Go.Proofs.YtfmbadinfhpihaaGreat.Sum (frames scan frames_append frames_cons frames_nil frame_length scan_frames)
abbrev Bs := List UInt8

/-- What a log has: records, groups, bytes. -/
structure Gs where
  recs : List Bs
  groups : Nat
  size : Nat
def countB (r : Bs) (n : Nat) : Bool := match Wire.dec 0 0 r with
  | .ok (N, m) => m == r.length && Wire.unzz N == (n : Int)
  | .error _ => false
/-- The groups at the front of frames; some records are open, so many bytes are behind. -/
def good : List Bs → List Bs → Nat → Gs → Gs
  | [], _, _, st => st
  | [] :: _, _, _, st => st
  | (c :: r) :: fs, op, a, st => if c = 114 then good fs (op ++ [r]) (a + (r.length + 9)) st
      else if c = 99 then (if countB r op.length = true then good fs [] (a + (r.length + 9)) ⟨st.recs ++ op, st.groups + 1, a + (r.length + 9)⟩ else st)
      else st
def none_ : Gs := ⟨[], 0, 0⟩
def goodOf (b : Bs) : Gs := good (scan b).1 [] 0 none_
def mark (n : Nat) : Bs := 99 :: Wire.enc (Wire.zz n)
def groupF (l : List Bs) : List Bs := l.map (fun s => (114 : UInt8) :: s) ++ [mark l.length]
def group (l : List Bs) : Bs := frames (groupF l)
theorem frames_one (s : Bs) : (frames [s]).length = s.length + 8 := by rw [frames_cons, frames_nil, List.append_nil, frame_length]
theorem good_recs (l fs : List Bs) : ∀ (op : List Bs) (a : Nat) (st : Gs), good (l.map (fun s => (114 : UInt8) :: s) ++ fs) op a st = good fs (op ++ l) (a + (frames (l.map (fun s => (114 : UInt8) :: s))).length) st := by
  induction l with
  | nil => intro op a st; simp [frames_nil]
  | cons s l ih =>
    intro op a st
    rw [List.map_cons, List.cons_append, good, if_pos rfl, ih, frames_cons, List.length_append, frame_length]
    simp only [List.append_assoc, List.cons_append, List.nil_append, List.length_cons]
    rw [show a + (s.length + 9) + (frames (l.map (fun s => (114 : UInt8) :: s))).length = a + (s.length + 1 + 8 + (frames (l.map (fun s => (114 : UInt8) :: s))).length) from by omega]
theorem countB_mark (n : Nat) (h : n ≤ 9223372036854775807) : countB (Wire.enc (Wire.zz n)) n = true := by
  have h1 := Wire.dec_enc0 (Wire.zz_lt (v := (n : Int)) (by omega) (by omega)) []
  rw [List.append_nil] at h1
  unfold countB
  rw [h1]
  simp [Wire.unzz_zz]
theorem group_length (l : List Bs) : (group l).length = (frames (l.map (fun s => (114 : UInt8) :: s))).length + ((Wire.enc (Wire.zz l.length)).length + 9) := by
  unfold group groupF
  rw [frames_append, List.length_append, frames_one]
  simp [mark]
theorem good_group (l fs : List Bs) (a : Nat) (st : Gs) (h : l.length ≤ 9223372036854775807) : good (groupF l ++ fs) [] a st = good fs [] (a + (group l).length) ⟨st.recs ++ l, st.groups + 1, a + (group l).length⟩ := by
  rw [group_length]
  unfold groupF
  rw [List.append_assoc, good_recs]
  simp only [List.nil_append, List.cons_append, mark]
  rw [good, if_neg (by decide), if_pos rfl, if_pos (countB_mark _ h)]
  rw [Nat.add_assoc]
def file (G : List (List Bs)) : Bs := (G.map group).flatten
def allF (G : List (List Bs)) : List Bs := (G.map groupF).flatten
theorem file_nil : file [] = [] := rfl
theorem file_snoc (G : List (List Bs)) (l : List Bs) : file (G ++ [l]) = file G ++ group l := by simp [file]
theorem allF_snoc (G : List (List Bs)) (l : List Bs) : allF (G ++ [l]) = allF G ++ groupF l := by simp [allF]
theorem frames_all (G : List (List Bs)) : frames (allF G) = file G := by
  induction G with
  | nil => rfl
  | cons l G ih => simp only [allF, file, List.map_cons, List.flatten_cons] at ih ⊢; rw [frames_append, ih]; rfl
theorem good_file (G : List (List Bs)) (hG : ∀ l ∈ G, l.length ≤ 9223372036854775807) (fs : List Bs) : ∀ (R : List Bs) (g a : Nat), good (allF G ++ fs) [] a ⟨R, g, a⟩ = good fs [] (a + (file G).length) ⟨R ++ G.flatten, g + G.length, a + (file G).length⟩ := by
  induction G with
  | nil => intro R g a; simp [allF, file]
  | cons l G ih =>
    intro R g a
    have h1 : allF (l :: G) = groupF l ++ allF G := by simp [allF]
    have h2 : file (l :: G) = group l ++ file G := by simp [file]
    rw [h1, h2, List.append_assoc, good_group _ _ _ _ (hG l (by simp)), ih (fun m hm => hG m (by simp [hm]))]
    simp only [List.flatten_cons, List.append_assoc, List.length_append, List.length_cons]
    rw [show g + 1 + G.length = g + (G.length + 1) from by omega, Nat.add_assoc]
/-- Groups that can be found again. -/
def Fit (l : List Bs) : Prop := l.length ≤ 9223372036854775807 ∧ ∀ s ∈ l, s.length < 60000
theorem mark_len (n : Nat) : (mark n).length ≤ 11 := by unfold mark; have := Wire.enc_le (Wire.zz n); simp; omega
theorem groupF_le {l : List Bs} (h : Fit l) : ∀ s ∈ groupF l, s.length ≤ 60000 := by
  intro s hs
  unfold groupF at hs
  rcases List.mem_append.1 hs with h1 | h1
  · obtain ⟨t, ht, rfl⟩ := List.mem_map.1 h1
    have := h.2 t ht
    simp; omega
  · obtain rfl : s = mark l.length := by simpa using h1
    have := mark_len l.length
    omega
theorem allF_le {G : List (List Bs)} (h : ∀ l ∈ G, Fit l) : ∀ s ∈ allF G, s.length ≤ 60000 := by
  intro s hs
  unfold allF at hs
  obtain ⟨fs, hf, hs⟩ := List.mem_flatten.1 hs
  obtain ⟨l, hl, rfl⟩ := List.mem_map.1 hf
  exact groupF_le (h l hl) s hs
theorem goodOf_file {G : List (List Bs)} (h : ∀ l ∈ G, Fit l) (r : Bs) : goodOf (file G ++ r) = good (scan r).1 [] (file G).length ⟨G.flatten, G.length, (file G).length⟩ := by
  unfold goodOf
  rw [← frames_all, scan_frames (allF_le h), frames_all]
  have := good_file G (fun l hl => (h l hl).1) (scan r).1 [] 0 0
  simpa [none_] using this
theorem good_end (op : List Bs) (a : Nat) (st : Gs) : good [] op a st = st := by unfold good; rfl
theorem goodOf_tail {G : List (List Bs)} (h : ∀ l ∈ G, Fit l) {r : Bs} (hr : r.length < 8) : goodOf (file G ++ r) = ⟨G.flatten, G.length, (file G).length⟩ := by
  rw [goodOf_file h, Sum.scan_short hr, good_end]
theorem goodOf_whole {G : List (List Bs)} (h : ∀ l ∈ G, Fit l) : goodOf (file G) = ⟨G.flatten, G.length, (file G).length⟩ := by
  have := goodOf_tail h (r := []) (by simp)
  simpa using this
/-- Cut within a group: what was ahead of it. -/
theorem goodOf_cut {G : List (List Bs)} (h : ∀ l ∈ G, Fit l) {l : List Bs} (hl : Fit l) {k : Nat} (hk : k < (group l).length) : goodOf (file G ++ (group l).take k) = ⟨G.flatten, G.length, (file G).length⟩ := by
  rw [goodOf_file h]
  obtain ⟨h1, h2⟩ := Sum.scan_cut (groupF_le hl) k hk
  have h3 := Sum.scan_framed ((frames (groupF l)).take k)
  have h4 := Sum.scan_le ((frames (groupF l)).take k)
  change (scan ((group l).take k)).1 = _ at h1
  change frames (scan ((group l).take k)).1 = _ at h3
  change (scan ((group l).take k)).2 ≤ ((group l).take k).length at h4
  change _ ≤ (groupF l).length at h2
  have h5 : (frames (scan ((group l).take k)).1).length ≤ k := by
    rw [h3, List.length_take, List.length_take]
    exact Nat.le_trans (Nat.min_le_right _ _) (Nat.min_le_left _ _)
  obtain ⟨j, hj⟩ : ∃ j, (scan ((frames (groupF l)).take k)).1.length = j := ⟨_, rfl⟩
  change (scan ((group l).take k)).1.length = j at hj
  have hjl : j ≤ l.length := by
    rcases Nat.lt_or_ge l.length j with h6 | h6
    · have h7 : (groupF l).length = l.length + 1 := by simp [groupF]
      have h8 : (scan ((group l).take k)).1 = groupF l := by
        rw [h1]
        exact List.take_of_length_le (by show _ ≤ (scan ((group l).take k)).1.length; rw [hj]; omega)
      rw [h8] at h5
      change (group l).length ≤ k at h5
      omega
    · exact h6
  have h9 : (scan ((group l).take k)).1 = (l.take j).map (fun s => (114 : UInt8) :: s) ++ [] := by
    rw [h1]
    show (groupF l).take (scan ((group l).take k)).1.length = _
    rw [hj]
    unfold groupF
    rw [List.take_append_of_le_length (by simpa using hjl), List.map_take, List.append_nil]
  rw [h9, good_recs, good_end]
/-- The good part is no more than the bytes. -/
theorem good_size : ∀ (fs op : List Bs) (a : Nat) (st : Gs), st.size ≤ a → (good fs op a st).size ≤ a + (frames fs).length
  | [], _, a, st, h => by rw [good_end]; omega
  | [] :: fs, _, a, st, h => by unfold good; omega
  | (c :: r) :: fs, op, a, st, h => by
    unfold good
    rw [frames_cons, List.length_append, frame_length]
    simp only [List.length_cons]
    split
    · have := good_size fs (op ++ [r]) (a + (r.length + 9)) st (by omega)
      omega
    · split
      · split
        · have := good_size fs [] (a + (r.length + 9)) ⟨st.recs ++ op, st.groups + 1, a + (r.length + 9)⟩ (Nat.le_refl _)
          omega
        · omega
      · omega
theorem goodOf_size (b : Bs) : (goodOf b).size ≤ b.length := by
  have h1 := good_size (scan b).1 [] 0 none_ (Nat.le_refl _)
  have h2 := Sum.scan_framed b
  have h3 := Sum.scan_le b
  rw [h2, List.length_take] at h1
  unfold goodOf
  omega
theorem good_few : ∀ (fs op : List Bs) (a : Nat) (st : Gs), (good fs op a st).recs.length ≤ st.recs.length + op.length + fs.length ∧ (good fs op a st).groups ≤ st.groups + fs.length
  | [], _, a, st => by rw [good_end]; exact ⟨by simp only [List.length_nil]; omega, by omega⟩
  | [] :: fs, _, a, st => by unfold good; simp; omega
  | (c :: r) :: fs, op, a, st => by
    unfold good
    simp only [List.length_cons]
    split
    · have := good_few fs (op ++ [r]) (a + (r.length + 9)) st
      simp only [List.length_append, List.length_cons, List.length_nil] at this
      omega
    · split
      · split
        · have := good_few fs [] (a + (r.length + 9)) ⟨st.recs ++ op, st.groups + 1, a + (r.length + 9)⟩
          simp only [List.length_append, List.length_nil] at this
          omega
        · omega
      · omega
end Wal
end Go.Proofs.YtfmbadinfhpihaaGreat
