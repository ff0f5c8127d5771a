/-
  The plain law of package sum: the check sum, frames and what is found in bytes, as functions on lists of bytes, and what they owe one another (a frame is found again; a changed byte changes the sum; what is found stands framed at the front).
  Conditions: records of at most 60000 bytes where a frame is to be found again. No program is in sight here.
-/
namespace Go.Proofs.YtjhinifmdjlblaaGreat
namespace Sum
abbrev Bs := List UInt8

def bit (x : Nat) : Nat := if x % 2 = 1 then (x / 2) ^^^ 3988292384 else x / 2
def bitN : Nat → Nat → Nat
  | 0, x => x
  | j + 1, x => bit (bitN j x)
def byte (x : Nat) (b : UInt8) : Nat := bitN 8 (x ^^^ b.toNat)
def crcFrom (x : Nat) (l : Bs) : Nat := l.foldl byte x
def crc (l : Bs) : Nat := 4294967295 - crcFrom 4294967295 l

theorem xor_lt {x y : Nat} (hx : x < 4294967296) (hy : y < 4294967296) : x ^^^ y < 4294967296 := Nat.xor_lt_two_pow (n := 32) hx hy
theorem bit_lt {x : Nat} (h : x < 4294967296) : bit x < 4294967296 := by
  unfold bit
  split
  · exact xor_lt (by omega) (by decide)
  · omega
theorem bitN_lt {x : Nat} (h : x < 4294967296) : ∀ j, bitN j x < 4294967296
  | 0 => h
  | j + 1 => bit_lt (bitN_lt h j)
theorem u8_lt (b : UInt8) : b.toNat < 256 := b.toNat_lt
theorem byte_lt {x : Nat} (h : x < 4294967296) (b : UInt8) : byte x b < 4294967296 :=
  bitN_lt (xor_lt h (by have := u8_lt b; omega)) 8
theorem crcFrom_lt {x : Nat} (h : x < 4294967296) (l : Bs) : crcFrom x l < 4294967296 := by
  induction l generalizing x with
  | nil => exact h
  | cons b l ih => exact ih (byte_lt h b)
theorem crc_lt (l : Bs) : crc l < 4294967296 := by unfold crc; omega
theorem crcFrom_append (x : Nat) (a b : Bs) : crcFrom x (a ++ b) = crcFrom (crcFrom x a) b := by simp [crcFrom]
theorem crc_nil : crc [] = 0 := rfl

theorem xor_cancel {a b c : Nat} (h : a ^^^ c = b ^^^ c) : a = b := by
  have h2 : (a ^^^ c) ^^^ c = (b ^^^ c) ^^^ c := by rw [h]
  simpa [Nat.xor_assoc] using h2
theorem top_set {x : Nat} (h : x < 4294967296) : 2147483648 ≤ (x / 2) ^^^ 3988292384 := by
  have h1 : ((x / 2) ^^^ 3988292384).testBit 31 = true := by
    rw [Nat.testBit_xor, Nat.testBit_lt_two_pow (x := x / 2) (i := 31) (by omega)]
    decide
  exact Nat.ge_two_pow_of_testBit h1
theorem bit_inj {x y : Nat} (hx : x < 4294967296) (hy : y < 4294967296) (h : bit x = bit y) : x = y := by
  unfold bit at h
  have tx := top_set hx
  have ty := top_set hy
  split at h <;> split at h
  · have := xor_cancel h; omega
  · omega
  · omega
  · omega
theorem bitN_inj {x y : Nat} (hx : x < 4294967296) (hy : y < 4294967296) : ∀ j, bitN j x = bitN j y → x = y
  | 0, h => h
  | j + 1, h => bitN_inj hx hy j (bit_inj (bitN_lt hx j) (bitN_lt hy j) h)
theorem byte_inj {x y : Nat} {b : UInt8} (hx : x < 4294967296) (hy : y < 4294967296) (h : byte x b = byte y b) : x = y := by
  have hb := u8_lt b
  exact xor_cancel (bitN_inj (xor_lt hx (by omega)) (xor_lt hy (by omega)) 8 h)
theorem byte_inj' {x : Nat} {b c : UInt8} (hx : x < 4294967296) (h : byte x b = byte x c) : b = c := by
  have hb := u8_lt b
  have hc := u8_lt c
  have h1 := bitN_inj (xor_lt hx (by omega)) (xor_lt hx (by omega)) 8 h
  rw [Nat.xor_comm x, Nat.xor_comm x] at h1
  exact UInt8.toNat_inj.1 (xor_cancel h1)
theorem crcFrom_inj {x y : Nat} (hx : x < 4294967296) (hy : y < 4294967296) (l : Bs) (h : crcFrom x l = crcFrom y l) : x = y := by
  induction l generalizing x y with
  | nil => exact h
  | cons b l ih => exact byte_inj hx hy (ih (byte_lt hx b) (byte_lt hy b) h)
/-- One byte changed: another sum. -/
theorem crc_change (l r : Bs) {b c : UInt8} (hne : b ≠ c) : crc (l ++ b :: r) ≠ crc (l ++ c :: r) := by
  intro h
  have h0 : (4294967295 : Nat) < 4294967296 := by decide
  have ha := crcFrom_lt h0 (l ++ b :: r)
  have hb := crcFrom_lt h0 (l ++ c :: r)
  have h1 : crcFrom 4294967295 (l ++ b :: r) = crcFrom 4294967295 (l ++ c :: r) := by unfold crc at h; omega
  rw [crcFrom_append, crcFrom_append] at h1
  have hl := crcFrom_lt h0 l
  exact hne (byte_inj' hl (crcFrom_inj (byte_lt hl b) (byte_lt hl c) r h1))

def four (n : Nat) : Bs := [UInt8.ofNat (n / 16777216), UInt8.ofNat (n / 65536), UInt8.ofNat (n / 256), UInt8.ofNat n]
def num : Bs → Nat
  | a :: b :: c :: d :: _ => a.toNat * 16777216 + b.toNat * 65536 + c.toNat * 256 + d.toNat
  | _ => 0
theorem four_length (n : Nat) : (four n).length = 4 := rfl
theorem num_four {n : Nat} (h : n < 4294967296) (r : Bs) : num (four n ++ r) = n := by
  simp only [four, num, List.cons_append, UInt8.toNat_ofNat']
  omega
theorem num_lt (b : Bs) : num b < 4294967296 := by
  unfold num
  split
  · rename_i a b c d _
    have := u8_lt a; have := u8_lt b; have := u8_lt c; have := u8_lt d
    omega
  · decide
theorem four_num {b : Bs} (h : 4 ≤ b.length) : four (num b) = b.take 4 := by
  match b, h with
  | a :: b :: c :: d :: r, _ =>
    have := u8_lt a; have := u8_lt b; have := u8_lt c; have := u8_lt d
    simp only [four, num, List.take_succ_cons, List.take_zero]
    congr 1
    · apply UInt8.toNat_inj.1; rw [UInt8.toNat_ofNat']; omega
    congr 1
    · apply UInt8.toNat_inj.1; rw [UInt8.toNat_ofNat']; omega
    congr 1
    · apply UInt8.toNat_inj.1; rw [UInt8.toNat_ofNat']; omega
    congr 1
    · apply UInt8.toNat_inj.1; rw [UInt8.toNat_ofNat']; omega
theorem four_inj {a b : Nat} (ha : a < 4294967296) (hb : b < 4294967296) (h : four a = four b) : a = b := by
  have := num_four ha []
  rw [h, num_four hb] at this
  exact this.symm

def frame (s : Bs) : Bs := four s.length ++ (four (crc s) ++ s)
def frames (l : List Bs) : Bs := (l.map frame).flatten
theorem frame_length (s : Bs) : (frame s).length = s.length + 8 := by simp [frame, four_length]; omega
theorem frames_nil : frames [] = [] := rfl
theorem frames_cons (s : Bs) (l : List Bs) : frames (s :: l) = frame s ++ frames l := by simp [frames]
theorem frames_append (a b : List Bs) : frames (a ++ b) = frames a ++ frames b := by simp [frames]
def total (l : List Bs) : Nat := (l.map List.length).sum
theorem frames_length (l : List Bs) : (frames l).length = total l + 8 * l.length := by
  induction l with
  | nil => rfl
  | cons s l ih => rw [frames_cons, List.length_append, frame_length, ih]; simp [total]; omega

/-- The whole record at the front of bytes, if there is one. -/
def head (b : Bs) : Option Bs :=
  if 8 ≤ b.length ∧ num b ≤ 60000 ∧ num b ≤ b.length - 8 ∧ crc ((b.drop 8).take (num b)) = num (b.drop 4) then some ((b.drop 8).take (num b)) else none
def scanN : Nat → Bs → List Bs × Nat
  | 0, _ => ([], 0)
  | f + 1, b => match head b with
    | none => ([], 0)
    | some s => (s :: (scanN f (b.drop (8 + s.length))).1, 8 + s.length + (scanN f (b.drop (8 + s.length))).2)
def scan (b : Bs) : List Bs × Nat := scanN (b.length + 1) b

theorem head_some {b s : Bs} (h : head b = some s) : 8 ≤ b.length ∧ s.length = num b ∧ num b ≤ 60000 ∧ 8 + s.length ≤ b.length ∧ crc s = num (b.drop 4) ∧ s = (b.drop 8).take (num b) := by
  unfold head at h
  split at h
  · rename_i hc
    obtain ⟨h1, h2, h3, h4⟩ := hc
    injection h with h
    subst h
    have hl : ((b.drop 8).take (num b)).length = num b := by simp; omega
    exact ⟨h1, hl, h2, by omega, h4, rfl⟩
  · cases h
theorem scanN_more : ∀ (f g : Nat) (b : Bs), b.length < f → b.length < g → scanN f b = scanN g b
  | 0, _, _, h, _ => by omega
  | _, 0, _, _, h => by omega
  | f + 1, g + 1, b, hf, hg => by
    unfold scanN
    cases hh : head b with
    | none => rfl
    | some s =>
      have h1 := head_some hh
      have : (b.drop (8 + s.length)).length < f := by simp; omega
      have h2 : (b.drop (8 + s.length)).length < g := by simp; omega
      simp only [scanN_more f g _ this h2]
theorem scan_none {b : Bs} (h : head b = none) : scan b = ([], 0) := by unfold scan scanN; rw [h]
theorem scan_some {b s : Bs} (h : head b = some s) : scan b = (s :: (scan (b.drop (8 + s.length))).1, 8 + s.length + (scan (b.drop (8 + s.length))).2) := by
  have h1 := head_some h
  have hl : (b.drop (8 + s.length)).length = b.length - (8 + s.length) := by simp
  have e : scanN b.length (b.drop (8 + s.length)) = scan (b.drop (8 + s.length)) := by
    unfold scan
    exact scanN_more _ _ _ (by omega) (by omega)
  conv => lhs; unfold scan scanN
  rw [h]
  simp only [e]
theorem scan_short {b : Bs} (h : b.length < 8) : scan b = ([], 0) := scan_none (by unfold head; rw [if_neg (by omega)])
theorem head_frame {s : Bs} (h : s.length ≤ 60000) (r : Bs) : head (frame s ++ r) = some s := by
  have hn : num (frame s ++ r) = s.length := by
    unfold frame
    rw [List.append_assoc]
    exact num_four (by omega) _
  have h8 : (frame s ++ r).drop 8 = s ++ r := by
    simp [frame, four]
  have h4 : num ((frame s ++ r).drop 4) = crc s := by
    have : (frame s ++ r).drop 4 = four (crc s) ++ (s ++ r) := by simp [frame, four]
    rw [this]
    exact num_four (crc_lt s) _
  have hl : (frame s ++ r).length = s.length + 8 + r.length := by rw [List.length_append, frame_length]
  have ht : (s ++ r).take s.length = s := by simp
  unfold head
  rw [hn, h8, h4, ht, if_pos ⟨by omega, h, by omega, rfl⟩]
theorem scan_frame {s : Bs} (h : s.length ≤ 60000) (r : Bs) : scan (frame s ++ r) = (s :: (scan r).1, (frame s).length + (scan r).2) := by
  rw [scan_some (head_frame h r)]
  have : (frame s ++ r).drop (8 + s.length) = r := by
    rw [show 8 + s.length = (frame s).length from by rw [frame_length]; omega]
    simp
  rw [this, frame_length, Nat.add_comm 8]
theorem scan_frames {l : List Bs} (h : ∀ s ∈ l, s.length ≤ 60000) (r : Bs) : scan (frames l ++ r) = (l ++ (scan r).1, (frames l).length + (scan r).2) := by
  induction l with
  | nil => simp [frames_nil]
  | cons s l ih =>
    rw [frames_cons, List.append_assoc, scan_frame (h s (by simp)), ih (fun t ht => h t (by simp [ht]))]
    simp [Nat.add_assoc]
/-- What is found stands framed at the front, and goes no further than the bytes. -/
theorem scan_stands (n : Nat) : ∀ b : Bs, b.length ≤ n → (scan b).2 ≤ b.length ∧ frames (scan b).1 = b.take (scan b).2 := by
  induction n with
  | zero =>
    intro b hb
    rw [scan_short (by omega)]
    simp [frames_nil]
  | succ n ih =>
    intro b hb
    cases hh : head b with
    | none => rw [scan_none hh]; simp [frames_nil]
    | some s =>
      obtain ⟨h8, hl, _, hle, hc, hs⟩ := head_some hh
      have hd : (b.drop (8 + s.length)).length = b.length - (8 + s.length) := by simp
      obtain ⟨i1, i2⟩ := ih (b.drop (8 + s.length)) (by omega)
      rw [scan_some hh]
      refine ⟨by simp only; omega, ?_⟩
      simp only [frames_cons, i2]
      have hf : frame s = b.take (8 + s.length) := by
        unfold frame
        rw [hl, four_num (b := b) (by omega), hc, four_num (b := b.drop 4) (by simp; omega)]
        conv => lhs; rw [hs]
        have h1 : b.take (8 + num b) = b.take 4 ++ ((b.drop 4).take 4 ++ (b.drop 8).take (num b)) := by
          rw [show 8 + num b = 4 + (4 + num b) from by omega, List.take_add, List.take_add, List.drop_drop]
        rw [h1]
      rw [hf, ← List.take_add]
theorem scan_le (b : Bs) : (scan b).2 ≤ b.length := (scan_stands _ b (Nat.le_refl _)).1
theorem scan_framed (b : Bs) : frames (scan b).1 = b.take (scan b).2 := (scan_stands _ b (Nat.le_refl _)).2
/-- Cut within frames: a first part of them is found. -/
theorem scan_cut {l : List Bs} (h : ∀ s ∈ l, s.length ≤ 60000) (cut : Nat) (hc : cut < (frames l).length) : (scan ((frames l).take cut)).1 = l.take (scan ((frames l).take cut)).1.length ∧ (scan ((frames l).take cut)).1.length ≤ l.length := by
  induction l generalizing cut with
  | nil => simp [frames_nil] at hc
  | cons s l ih =>
    rw [frames_cons] at hc ⊢
    have hs := h s (by simp)
    by_cases hlt : cut < (frame s).length
    · have hn : head ((frame s ++ frames l).take cut) = none := by
        rw [List.take_append_of_le_length (by omega)]
        by_cases h8 : cut < 8
        · unfold head; rw [if_neg (by simp; omega)]
        · have hn : num ((frame s).take cut) = s.length := by
            have : (frame s).take cut = four s.length ++ (four (crc s) ++ s).take (cut - 4) := by
              unfold frame
              rw [List.take_append, four_length, List.take_of_length_le (by rw [four_length]; omega)]
            rw [this]
            exact num_four (by omega) _
          rw [frame_length] at hlt
          have hlen : ((frame s).take cut).length = cut := by rw [List.length_take, frame_length]; omega
          unfold head
          rw [if_neg (by rw [hn, hlen]; omega)]
      rw [scan_none hn]
      simp
    · have ht : (frame s ++ frames l).take cut = frame s ++ (frames l).take (cut - (frame s).length) := by
        rw [List.take_append, List.take_of_length_le (by omega)]
      rw [ht, scan_frame hs]
      have hi := ih (fun t h' => h t (by simp [h'])) (cut - (frame s).length) (by rw [List.length_append] at hc; omega)
      refine ⟨?_, by simpa using hi.2⟩
      simp only [List.length_cons, List.take_succ_cons]
      rw [← hi.1]

theorem set_split (l : Bs) (k : Nat) (h : k < l.length) (c : UInt8) : ∃ a r, l = a ++ l[k] :: r ∧ l.set k c = a ++ c :: r ∧ a.length = k := by
  refine ⟨l.take k, l.drop (k + 1), ?_, ?_, by simp; omega⟩
  · rw [List.getElem_cons_drop]; simp
  · rw [List.set_eq_take_append_cons_drop, if_pos h]
/-- A frame of which one byte is changed is not found as it was: changed in the sum or the record, nothing is found; changed in the length, no record of that length. -/
theorem scan_changed {s : Bs} (hs : s.length ≤ 60000) (k : Nat) (hk : k < s.length + 8) (c : UInt8) (hne : (frame s)[k]'(by rw [frame_length]; exact hk) ≠ c) :
    ((scan ((frame s).set k c)).1 = [s] → False) ∧ (4 ≤ k → scan ((frame s).set k c) = ([], 0)) := by
  have hlen : ((frame s).set k c).length = s.length + 8 := by rw [List.length_set, frame_length]
  have hfk : (frame s)[k]? = some ((frame s)[k]'(by rw [frame_length]; exact hk)) := List.getElem?_eq_getElem _
  generalize hb : (frame s).set k c = b at *
  have hbk : b[k]? = some c := by rw [← hb, List.getElem?_set_self (by rw [frame_length]; exact hk)]
  have hbo : ∀ j, j ≠ k → b[j]? = (frame s)[j]? := fun j hj => by rw [← hb, List.getElem?_set_ne (by omega)]
  have hf4 : (frame s).take 4 = four s.length := by simp [frame, four]
  have hf8 : ((frame s).drop 4).take 4 = four (crc s) := by simp [frame, four]
  have hfd : (frame s).drop 8 = s := by simp [frame, four]
  refine ⟨fun hsc => ?_, fun h4 => ?_⟩
  · cases hh : head b with
    | none => rw [scan_none hh] at hsc; simp at hsc
    | some t =>
      obtain ⟨h8, hl, _, _, hc, ht⟩ := head_some hh
      rw [scan_some hh] at hsc
      simp only [List.cons.injEq] at hsc
      obtain ⟨rfl, hrest⟩ := hsc
      -- the length, the sum and the record are those of the frame: so the bytes are
      have e1 : b.take 4 = four t.length := by rw [← four_num (b := b) (by omega), hl]
      have e2 : (b.drop 4).take 4 = four (crc t) := by rw [hc, four_num (b := b.drop 4) (by simp; omega)]
      have e3 : b.drop 8 = t := by
        have : (b.drop 8).length = t.length := by simp; omega
        rw [← hl] at ht
        rw [ht, List.take_of_length_le (by simp; omega)]
      have : b = frame t := by
        have e : b = b.take 4 ++ ((b.drop 4).take 4 ++ b.drop 8) := by
          rw [show b.drop 8 = (b.drop 4).drop 4 from by rw [List.drop_drop], List.take_append_drop, List.take_append_drop]
        rw [e, e1, e2, e3]; rfl
      rw [this, hfk] at hbk
      injection hbk with hbk
      exact hne hbk
  · apply scan_none
    have hn : num b = s.length := by
      have h1 : b.take 4 = four s.length := by
        rw [← hf4]
        apply List.ext_getElem?
        intro j
        rw [List.getElem?_take, List.getElem?_take]
        split
        · exact hbo j (by omega)
        · rfl
      have h2 : b = four s.length ++ b.drop 4 := by rw [← h1, List.take_append_drop]
      rw [h2]
      exact num_four (by omega) _
    unfold head
    rw [if_neg]
    rw [hn]
    rintro ⟨_, _, _, hc⟩
    rw [List.take_of_length_le (by simp; omega)] at hc
    by_cases h8 : k < 8
    · have hd : b.drop 8 = s := by
        rw [← hfd]
        apply List.ext_getElem?
        intro j
        rw [List.getElem?_drop, List.getElem?_drop]
        exact hbo _ (by omega)
      rw [hd] at hc
      have e2 : (b.drop 4).take 4 = four (crc s) := by rw [hc, four_num (b := b.drop 4) (by simp; omega)]
      have e3 : (b.drop 4).take 4 = ((frame s).drop 4).take 4 := by rw [e2, hf8]
      have e4 := congrArg (fun l => l[k - 4]?) e3
      simp only [List.getElem?_take, List.getElem?_drop] at e4
      rw [if_pos (by omega), if_pos (by omega), show 4 + (k - 4) = k from by omega, hbk, hfk] at e4
      injection e4 with e4
      exact hne e4.symm
    · have e2 : num (b.drop 4) = crc s := by
        have h1 : (b.drop 4).take 4 = four (crc s) := by
          rw [← hf8]
          apply List.ext_getElem?
          intro j
          rw [List.getElem?_take, List.getElem?_take]
          split
          · rw [List.getElem?_drop, List.getElem?_drop]
            exact hbo _ (by omega)
          · rfl
        have h2 : b.drop 4 = four (crc s) ++ (b.drop 4).drop 4 := by rw [← h1, List.take_append_drop]
        rw [h2]
        exact num_four (crc_lt s) _
      rw [e2] at hc
      have hks : k - 8 < s.length := by omega
      obtain ⟨a, r, hsa, hset, hal⟩ := set_split s (k - 8) hks c
      have hbd : b.drop 8 = s.set (k - 8) c := by
        rw [← hb]
        have : ((frame s).set k c).drop 8 = ((frame s).drop 8).set (k - 8) c := by
          rw [List.drop_set, if_neg (by omega)]
        rw [this, hfd]
      have hsk : s[k - 8] ≠ c := by
        have : (frame s)[k]? = s[k - 8]? := by
          rw [← hfd, List.getElem?_drop, show 8 + (k - 8) = k from by omega]
          simp [hfd]
        rw [hfk, List.getElem?_eq_getElem hks] at this
        injection this with this
        rw [← this]
        exact hne
      rw [hbd, hset] at hc
      conv at hc => rhs; rw [hsa]
      exact crc_change a r (fun e => hsk e.symm) hc
end Sum
end Go.Proofs.YtjhinifmdjlblaaGreat
