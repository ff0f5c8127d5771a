/-
  SnapClean: behind Saves there are just a picture and its log; a state that is too long is refused.
  Conditions: two numbers.
-/
import Derived.Test.YtjhinifmdjlblaaGreatSnWD
import Derived.Test.YtjhinifmdjlblaaGreatSn10
namespace Go.Proofs.YtjhinifmdjlblaaGreat
open Go.RowKit Go.Maps
set_option maxRecDepth 100000

def mzc (k : Nat) : Array Value := madeCells (Value.int .u8 0).cells (k * 1)
theorem mzc_list (k : Nat) : (mzc k).toList = Lib.byteCells (List.replicate k (0 : UInt8)) := by
  unfold Lib.byteCells
  rw [List.map_replicate]
  unfold mzc madeCells
  apply List.ext_getElem
  · simp
  · intro i h1 h2
    simp [Value.cells, Nat.mod_one]
theorem run_make_c (k : Nat) (hk : k ≤ 200000) (w : World) : (Instr.makeSlice 39 (.int .i64 (k : Int)) (.int .i64 (k : Int))).run Tryz.prog w = .ok (.slice (some ⟨w.heap.size, 0, none⟩) k k) (w.alloc (.cells (mzc k) 5)) := by
  obtain ⟨i0, hi, hz0, hz1, hz2⟩ := info_parts (show (Tryz.prog.info? 5).map (fun i => (i.zero, i.size, i.bytes)) = some (some (.int .u8 0), 1, 1) by kernel_rfl)
  have hr := run_make (P := Tryz.prog) w 39 5 i0 (.int .u8 0) Tryz.underlying39 hi hz0 .i64 .i64 k k (by omega) (by omega) (by rw [hz2]; omega) (by omega)
  simp only [Int.toNat_natCast] at hr
  rw [hr, hz1]
  rfl
/-- A row of bytes that the call has made. -/
def RowC (B gb m : Nat) (l : List UInt8) (w : World) : Prop := w.ownsRow B 5 1 (.slice (some ⟨gb, 0, none⟩) m m) m (Lib.byteCells l) ∧ l.length = m
theorem RowC.text {B gb m : Nat} {l : List UInt8} {w : World} (h : RowC B gb m l w) : (convert 39 9 (.slice (some ⟨gb, 0, none⟩) m m)).run Tryz.prog w = .ok (.string ⟨l.toArray⟩) w :=
  run_bytes_string (P := Tryz.prog) _ Tryz.underlying39 Tryz.underlying5 Tryz.underlying9 h.2 (Reads.of_own h.1)
theorem RowC.lt {B gb m : Nat} {l : List UInt8} {w : World} (h : RowC B gb m l w) : B ≤ gb ∧ gb < w.heap.size := h.1.lt gb rfl
theorem RowC.keep {B gb m : Nat} {l : List UInt8} {w w' : World} (h : RowC B gb m l w) (hk : w'.heap[gb]? = w.heap[gb]?) : RowC B gb m l w' :=
  ⟨Wi.ownsRow_keep h.1 (fun q hq => by have e : gb = q := by simpa [Value.ownBlock] using hq
                                       subst e; exact hk), h.2⟩
theorem RowC.mv {B gb m : Nat} {l : List UInt8} {w w' : World} {S S' : List Nat} (h : RowC B gb m l w) (hm : Mv S S' w w') (ha : gb ∉ S) : RowC B gb m l w' ∧ gb ∉ S' :=
  ⟨h.keep (hm.block gb h.lt.2 ha), fun e => (hm.link gb e).elim ha (fun h' => by have := h.lt.2; omega)⟩
theorem RowC.new (m : Nat) (hm : m ≤ 200000) (w : World) {B : Nat} (hB : B ≤ w.heap.size) : RowC B w.heap.size m (List.replicate m 0) (w.alloc (.cells (mzc m) 5)) := by
  refine ⟨⟨by rw [Lib.byteCells_length]; simp, .inr ⟨w.heap.size, m, mzc m, rfl, hB, heap_alloc_new w _, Nat.le_refl _, by unfold maxLen; omega, by simp [mzc, madeCells, Value.cells], ?_⟩⟩, by simp⟩
  rw [mzc_list, List.take_of_length_le (by rw [Lib.byteCells_length]; simp)]
theorem RowC.cell {B gb m : Nat} {l : List UInt8} {w : World} (h : RowC B gb m l w) {i : Nat} (hi : i < m) : ∃ x, w.cell? ⟨gb, i, none⟩ = some (.int .u8 x) := by
  have h1 := h.1.cellAt i (by omega)
  have h2 : i < l.length := by have := h.2; omega
  rw [show (Lib.byteCells l)[i]? = some (.int .u8 (l[i]).toNat) by simp [Lib.byteCells, h2]] at h1
  exact ⟨_, h1⟩
theorem RowC.set {B gb m : Nat} {l : List UInt8} {w : World} (h : RowC B gb m l w) (i v : Nat) (hv : v < 256) : RowC B gb m (l.set i (UInt8.ofNat v)) (w.setCell ⟨gb, i, none⟩ (.int .u8 (v : Int))) := by
  have h1 := (h.1.stored i (.int .u8 (v : Int))).1
  have e : (Lib.byteCells l).set i (.int .u8 (v : Int)) = Lib.byteCells (l.set i (UInt8.ofNat v)) := by
    unfold Lib.byteCells
    rw [List.map_set]
    congr 2
    simp [Nat.mod_eq_of_lt hv]
  rw [e] at h1
  exact ⟨h1, by simp [h.2]⟩
theorem files_len {fs : DataW Unit} {dir : ByteArray} {n : Nat} {base : ByteArray} {G : List (List ByteArray)} (hF : Files fs (qm dir n base G)) : (lstS fs).length = if n = 0 then 1 else 2 := by
  have hl : (lstS fs).length = Maps.size fs := lstS_len hF.good.keys
  have hm1 : lgB dir n ∈ lstS fs := (hF.mem _).2 ⟨_, qm_lg⟩
  by_cases h0 : n = 0
  · rw [if_pos h0]
    have h1 := hF.few [lgB dir n] fun s v hv => by
      rcases qm_dom hv with rfl | ⟨h, _⟩
      · simp
      · exact absurd h0 h
    simp only [List.length_cons, List.length_nil] at h1
    have h2 := List.length_pos_of_mem hm1
    omega
  · rw [if_neg h0]
    have h1 := hF.few [lgB dir n, picB dir n] fun s v hv => by
      rcases qm_dom hv with rfl | ⟨_, rfl⟩ <;> simp
    simp only [List.length_cons, List.length_nil] at h1
    have hm2 : picB dir n ∈ lstS fs := (hF.mem _).2 ⟨_, qm_pic h0⟩
    have hne : picB dir n ≠ lgB dir n := pic_ne_lg
    have h2 : 2 ≤ (lstS fs).length := by
      match hx : lstS fs with
      | [] => rw [hx] at hm1; cases hm1
      | [x] =>
        rw [hx] at hm1 hm2
        simp only [List.mem_singleton] at hm1 hm2
        exact absurd (hm2.trans hm1.symm) hne
      | _ :: _ :: _ => simp
    omega
/-- What holds at the loop's head. -/
structure CInv (w : World) (a c b gb m : Nat) (j : Nat) (base : ByteArray) (G : List (List ByteArray)) (l : List UInt8) (g : Nat) (T : List Nat) (st : Dk) (fs : DataW Unit) (wr : World) : Prop where
  store : StoreAt a g c T dirW ⟨j, base, false, logOf G false⟩ wr
  dk : DkAt c b st wr
  pw : Pow false st fs
  files : Files fs (qm dirW j base G)
  lowT : ∀ q, q ∈ T → w.heap.size ≤ q
  bel : Below w.heap.size w wr
  row : RowC w.heap.size gb m l wr
  away : gb ∉ a :: c :: b :: T
  zero : j = 0 → base = ⟨#[]⟩ ∧ G = []
  some_ : j ≠ 0 → base = ⟨l.toArray⟩ ∧ G = [[⟨#[120]⟩]] ∧ m ≤ 150000
  fsz : (fileOf G).size ≤ 100
theorem CInv.bsz {w : World} {a c b gb m j : Nat} {base : ByteArray} {G : List (List ByteArray)} {l : List UInt8} {g : Nat} {T : List Nat} {st : Dk} {fs : DataW Unit} {wr : World} (h : CInv w a c b gb m j base G l g T st fs wr) : base.size ≤ 150000 := by
  by_cases h0 : j = 0
  · rw [(h.zero h0).1]; decide
  · rw [(h.some_ h0).1]
    have h1 : (⟨l.toArray⟩ : ByteArray).size = l.length := by show l.toArray.size = _; simp
    rw [h1, h.row.2]
    exact (h.some_ h0).2.2
theorem CInv.fit {w : World} {a c b gb m j : Nat} {base : ByteArray} {G : List (List ByteArray)} {l : List UInt8} {g : Nat} {T : List Nat} {st : Dk} {fs : DataW Unit} {wr : World} (h : CInv w a c b gb m j base G l g T st fs wr) : ∀ ss ∈ G, FitG ss := by
  by_cases h0 : j = 0
  · rw [(h.zero h0).2]; simp
  · rw [(h.some_ h0).2.1]; exact fit_one ⟨#[120]⟩ (by decide)
theorem names_dirC (n : Nat) (h : n < 1000000000000) : Names dirW n := ⟨by decide, by decide, h⟩
theorem text_size (l : List UInt8) : (⟨l.toArray⟩ : ByteArray).size = l.length := by show l.toArray.size = _; simp
theorem saveS_long {dir : ByteArray} {n : Nat} {base state : ByteArray} {lg : Lg} {st : Dk} (hs : 150000 < state.size) : saveS dir ⟨n, base, false, lg⟩ st state = (2, ⟨n, base, false, lg⟩, st) := by
  unfold saveS saveR
  rw [if_neg (show ¬ (false = true) by decide), if_pos hs]
set_option maxHeartbeats 4000000 in
theorem sclean_bad (n size : Int) (w : World) (h : n < 0 ∨ 12 < n ∨ size < 0 ∨ 150001 < size) :
    Calls Tryz.prog 4 #[.int .i64 n, .int .i64 size] w fun e w' => e = .returned (.bool true) ∧ Below w.heap.size w w' := by
  by_cases g1 : n < 0
  rotate_left
  by_cases g2 : 12 < n
  rotate_left
  by_cases g3 : size < 0
  rotate_left
  have g4 : 150001 < size := by omega
  all_goals
    clear h
    go_enter Tryz.func4, Tryz.ntmps4
    go_wp2_with fail
    refine (alive7_any _).mono ?_
    rintro e w2 ⟨rfl, hb2⟩
    have HB2 := Lib.hid hb2
    clear hb2
    go_wp2
    go_ret
    exact ⟨rfl, HB2.out⟩
set_option maxHeartbeats 40000000 in
theorem sclean_walk (n m : Nat) (hn : n ≤ 12) (hm : m ≤ 150001) (w : World) :
    Calls Tryz.prog 4 #[.int .i64 n, .int .i64 m] w fun e w' => e = .returned (.bool true) ∧ Below w.heap.size w w' := by
  have HMK := Lib.hid (fun W => run_make_c m (by omega) W)
  go_enter Tryz.func4, Tryz.ntmps4
  go_wp2_with fail
  refine (new_any _).mono ?_
  rintro e w3 ⟨c, b, rfl, h3, hc, hb0, hbel3⟩
  have HB3 := Lib.hid hbel3
  have q : Calls Tryz.prog 6 #[.pointer (some ⟨c, 0, none⟩), .string ⟨#[119]⟩] w3 (OpenQ c b dirW 0 ⟨#[]⟩ [] w3) := openQ c b dirW 0 ⟨#[]⟩ [] (names_dirC 0 (by decide)) newDk (.map []) _ on1_new files_none (opn_new _) (Nat.zero_le _) w3 h3
  clear hbel3 h3
  go_wp2_with fail
  refine q.mono ?_
  rintro e w4 ⟨a, g4, T4, s4, fs4, rfl, hs4, hd4, ho4, hF4, ha4, hT4, hm4⟩
  have hB4 := open_here HB3.out hm4 hc hb0
  have ha : w.heap.size ≤ a := Nat.le_trans HB3.out.size ha4
  have hz4 := hB4.size
  have hrow := RowC.new m (by omega) w4 hz4
  have hl4 := hs4.1.lt
  have hl5 := hd4.lt
  have hl6 := hd4.ltb
  have hap : w4.heap.size ∉ a :: c :: b :: T4 := fun e => by
    simp only [List.mem_cons] at e
    rcases e with e | e | e | e
    · omega
    · omega
    · omega
    · have := hs4.2.1.there _ e; omega
  obtain ⟨gb, hgb⟩ : ∃ k, w4.heap.size = k := ⟨_, rfl⟩
  have hmk := HMK.out w4
  rw [hgb] at hrow hap hmk
  obtain ⟨w5, hw5⟩ : ∃ W, w4.alloc (.cells (mzc m) 5) = W := ⟨_, rfl⟩
  rw [hw5] at hrow hmk
  have HI5 : Hid (CInv w a c b gb m 0 ⟨#[]⟩ [] (List.replicate m 0) g4 T4 s4 fs4 w5) := by
    refine ⟨?_, ?_, ho4.pow, hF4, fun k hk => Nat.le_trans HB3.out.size (hT4 k hk), ?_, hrow, hap, (fun _ => ⟨rfl, rfl⟩), (fun h => absurd rfl h), by decide⟩
    · rw [← hw5]; exact hs4.below (Below.refl _ _ |>.alloc (Nat.le_refl _) _)
    · rw [← hw5]; exact hd4.alloc _
    · rw [← hw5]; exact hB4.alloc hz4 _
  clear q hs4 hd4 ho4 hF4 hT4 hm4 ha4 HB3 hB4 hz4 hrow hl4 hl5 hl6 hap hw5 hgb HMK
  go_wp2
  go_loopw [9, 10] (fun i _ wr => ∃ (j : Nat) (base : ByteArray) (G : List (List ByteArray)) (l : List UInt8) (g : Nat) (T : List Nat) (st : Dk) (fs : DataW Unit), j ≤ n ∧ i = .int .i64 j ∧ Hid (CInv w a c b gb m j base G l g T st fs wr)) (fun i _ _ => n - (intOf i).toNat)
  case atStart => exact ⟨0, _, _, _, _, _, _, _, Nat.zero_le _, rfl, HI5⟩
  case round =>
    clear HI5 hmk
    obtain ⟨j, base, G, l, g, T, st, fs, hj, rfl, HI⟩ := hrel
    by_cases hlt : j < n
    · have hbz := HI.out.bsz
      have hfz := HI.out.fsz
      have htot : Tot6 st := by unfold Tot6; rw [HI.out.pw.fs_]; exact tot_quiet HI.out.files hbz (by omega)
      have HTOT := Lib.hid htot; have HBZ := Lib.hid hbz
      clear hbz hfz htot
      by_cases hm0 : m = 0
      · have hrow6 := HI.out.row
        have hst6 := HI.out.store
        have hd6 := HI.out.dk
        have hB6 := HI.out.bel
        have haw6 := HI.out.away
        have hm15 : m ≤ 150000 := by omega
        have hmp : ¬ (0 < m) := by omega
        clear hm0
        have hsz : (⟨l.toArray⟩ : ByteArray).size = m := by rw [text_size]; exact hrow6.2
        have hcv := hrow6.text
        obtain ⟨sv, hsv⟩ : ∃ s : ByteArray, (⟨l.toArray⟩ : ByteArray) = s := ⟨_, rfl⟩
        rw [hsv] at hsz hcv
        have HSV := Lib.hid hsv
        rcases next_law (state := sv) (names_dirC (j + 1) (by omega)) HI.out.pw HI.out.files HBZ.out (by omega) (by have := HI.out.fsz; omega) with ⟨s2, fs2, e2, ho2, hF2⟩ | ⟨hff, _⟩
        rotate_left
        · cases hff
        have qs := save_any a g c b T dirW ⟨j, base, false, logOf G false⟩ st HI.out.pw.ok HTOT.out (by decide) (by show j ≤ _; omega) sv (by omega) wr hst6 hd6
        rw [saveS_ok (by omega) e2, lg_none] at qs
        have QS := Lib.hid qs; have HO2 := Lib.hid ho2; have HF2 := Lib.hid hF2; have HROW := Lib.hid hrow6; have HB6 := Lib.hid hB6; have HSZ := Lib.hid hsz; have HAW := Lib.hid haw6
        have HLT := Lib.hid HI.out.lowT
        clear qs e2 ho2 hF2 hst6 hd6 hB6 hsv hrow6 HI HTOT HBZ hsz haw6
        go_wp2_with fail
        refine QS.out.mono ?_
        rintro e w8 ⟨g8, T8, rfl, hs8, hd8, hm8⟩
        obtain ⟨hB8, hT8⟩ := Mv.hereS HB6.out hm8 ha hc hb0 HLT.out
        obtain ⟨hr8, ha8⟩ := HROW.out.mv hm8 HAW.out
        simp only at hs8 hd8
        have hcl := commit_law HO2.out HF2.out (by have := HSZ.out; omega) (long_one ⟨#[120]⟩ (by decide)) (by decide) (by have := one_group ⟨#[120]⟩ (by decide); rw [size_nil]; omega)
        rcases hcl with ⟨s5, fs5, e5, ho5, hF5⟩ | ⟨hff, _⟩
        rotate_left
        · cases hff
        rw [List.nil_append] at e5 hF5
        have q5 := fun (s : Nat) (hs : s = w8.heap.size) => scommit_lit a g8 c b T8 dirW _ s2 HO2.out.ok (by decide) (by show j + 1 ≤ _; omega) [⟨#[120]⟩] _ _ _ rfl e5 1 rfl #[.string ⟨#[120]⟩] rfl 9 s 1 w8 hs hs8 hd8 (by decide) (by decide) (by show (logOf [] false).recs.length ≤ _; decide) (by show (logOf [] false).groups ≤ _; decide) (by show (logOf [] false).size ≤ _; decide)
        have Q5 := Lib.hid q5; have HO5 := Lib.hid ho5; have HF5 := Lib.hid hF5; have HR8 := Lib.hid hr8; have HA8 := Lib.hid ha8; have HB8 := Lib.hid hB8; have HT8 := Lib.hid hT8
        clear q5 e5 ho5 hF5 hs8 hd8 hm8 hr8 ha8 hB8 hT8 QS HO2 HF2 HROW HB6 HAW HLT hcv
        go_wp2_with fail
        refine (Q5.out _ rfl).mono ?_
        rintro e w9 ⟨T9, rfl, hs9, hd9, hm9⟩
        obtain ⟨hB9, hT9⟩ := Mv.hereS HB8.out hm9 ha hc hb0 HT8.out
        obtain ⟨hr9, ha9⟩ := HR8.out.mv hm9 HA8.out
        have qr := round_any hs9.1
        have HI9 : Hid (CInv w a c b gb m (j + 1) sv [[⟨#[120]⟩]] l g8 T9 s5 fs5 w9) :=
          ⟨hs9, hd9, HO5.out, HF5.out, hT9, hB9, hr9, ha9, (fun h => by omega), (fun _ => ⟨HSV.out.symm, rfl, hm15⟩), by rw [file_one]; exact one_group ⟨#[120]⟩ (by decide)⟩
        clear hs9 hd9 hm9 hB9 hT9 hr9 ha9 Q5 HO5 HF5 HR8 HA8 HB8 HT8 HSV HSZ
        go_wp2_with fail
        refine qr.mono ?_
        rintro e w10 ⟨rfl, rfl⟩
        clear qr
        go_wp2
        go_roundw
        case rel => exact ⟨j + 1, _, _, _, _, _, _, _, hlt, by go_num, HI9⟩
        case measure => simp [intOf]; omega
      · have hmpos : 0 < m := by omega
        have hmz : (m : Int) ≠ 0 := by omega
        obtain ⟨ix, hix⟩ : ∃ ix, j * 7919 % m = ix := ⟨_, rfl⟩
        have hixm : ix < m := by rw [← hix]; exact Nat.mod_lt _ hmpos
        obtain ⟨x0, hcell⟩ := HI.out.row.cell hixm
        have hfroz := HI.out.row.1.frozenAt ix
        have hrem : Int.tmod ((j : Int) * 7919) (m : Int) = (ix : Int) := by
          rw [← hix]
          rfl
        have hrow7 := HI.out.row.set ix (j + 1) (by omega)
        have hmv : Mv [gb] [gb] wr (wr.setCell ⟨gb, ix, none⟩ (.int .u8 ((j + 1 : Nat) : Int))) := (Mv.refl [gb] wr).set_ (by simp) ix _
        have haw := HI.out.away
        simp only [List.mem_cons, not_or] at haw
        have hst7 := HI.out.store.aside hmv (by simp; omega) (fun k hk e => haw.2.2.2 (by simp at e; rwa [e] at hk))
        have hd7 := HI.out.dk.mv hmv (by simp; omega) (by simp; omega)
        have hB7 := HI.out.bel.setCell (p := ⟨gb, ix, none⟩) HI.out.row.lt.1 (.int .u8 ((j + 1 : Nat) : Int))
        have e1 : (((j + 1 : Nat) : Int)) = (j : Int) + 1 := by omega
        rw [e1] at hrow7 hst7 hd7 hB7
        obtain ⟨l6, hl6⟩ : ∃ l', l.set ix (UInt8.ofNat (j + 1)) = l' := ⟨_, rfl⟩
        rw [hl6] at hrow7
        obtain ⟨W6, hW6⟩ : ∃ W, wr.setCell ⟨gb, ix, none⟩ (.int .u8 ((j : Int) + 1)) = W := ⟨_, rfl⟩
        rw [hW6] at hrow7 hst7 hd7 hB7
        have hrow6 := hrow7
        have hst6 := hst7
        have hd6 := hd7
        have hB6 := hB7
        have haw6 := HI.out.away
        clear hix hrow7 hst7 hd7 hB7 haw hmv e1 hl6 hm0
        by_cases hm15 : m ≤ 150000
        · skip
          have hsz : (⟨l6.toArray⟩ : ByteArray).size = m := by rw [text_size]; exact hrow6.2
          have hcv := hrow6.text
          obtain ⟨sv, hsv⟩ : ∃ s : ByteArray, (⟨l6.toArray⟩ : ByteArray) = s := ⟨_, rfl⟩
          rw [hsv] at hsz hcv
          have HSV := Lib.hid hsv
          rcases next_law (state := sv) (names_dirC (j + 1) (by omega)) HI.out.pw HI.out.files HBZ.out (by omega) (by have := HI.out.fsz; omega) with ⟨s2, fs2, e2, ho2, hF2⟩ | ⟨hff, _⟩
          rotate_left
          · cases hff
          have qs := save_any a g c b T dirW ⟨j, base, false, logOf G false⟩ st HI.out.pw.ok HTOT.out (by decide) (by show j ≤ _; omega) sv (by omega) W6 hst6 hd6
          rw [saveS_ok (by omega) e2, lg_none] at qs
          have QS := Lib.hid qs; have HO2 := Lib.hid ho2; have HF2 := Lib.hid hF2; have HROW := Lib.hid hrow6; have HB6 := Lib.hid hB6; have HSZ := Lib.hid hsz; have HAW := Lib.hid haw6
          have HLT := Lib.hid HI.out.lowT
          clear qs e2 ho2 hF2 hst6 hd6 hB6 hsv hrow6 HI HTOT HBZ hsz haw6
          go_wp2_with fail
          refine QS.out.mono ?_
          rintro e w8 ⟨g8, T8, rfl, hs8, hd8, hm8⟩
          obtain ⟨hB8, hT8⟩ := Mv.hereS HB6.out hm8 ha hc hb0 HLT.out
          obtain ⟨hr8, ha8⟩ := HROW.out.mv hm8 HAW.out
          simp only at hs8 hd8
          have hcl := commit_law HO2.out HF2.out (by have := HSZ.out; omega) (long_one ⟨#[120]⟩ (by decide)) (by decide) (by have := one_group ⟨#[120]⟩ (by decide); rw [size_nil]; omega)
          rcases hcl with ⟨s5, fs5, e5, ho5, hF5⟩ | ⟨hff, _⟩
          rotate_left
          · cases hff
          rw [List.nil_append] at e5 hF5
          have q5 := fun (s : Nat) (hs : s = w8.heap.size) => scommit_lit a g8 c b T8 dirW _ s2 HO2.out.ok (by decide) (by show j + 1 ≤ _; omega) [⟨#[120]⟩] _ _ _ rfl e5 1 rfl #[.string ⟨#[120]⟩] rfl 9 s 1 w8 hs hs8 hd8 (by decide) (by decide) (by show (logOf [] false).recs.length ≤ _; decide) (by show (logOf [] false).groups ≤ _; decide) (by show (logOf [] false).size ≤ _; decide)
          have Q5 := Lib.hid q5; have HO5 := Lib.hid ho5; have HF5 := Lib.hid hF5; have HR8 := Lib.hid hr8; have HA8 := Lib.hid ha8; have HB8 := Lib.hid hB8; have HT8 := Lib.hid hT8
          clear q5 e5 ho5 hF5 hs8 hd8 hm8 hr8 ha8 hB8 hT8 QS HO2 HF2 HROW HB6 HAW HLT hcv
          go_wp2_with fail
          refine (Q5.out _ rfl).mono ?_
          rintro e w9 ⟨T9, rfl, hs9, hd9, hm9⟩
          obtain ⟨hB9, hT9⟩ := Mv.hereS HB8.out hm9 ha hc hb0 HT8.out
          obtain ⟨hr9, ha9⟩ := HR8.out.mv hm9 HA8.out
          have qr := round_any hs9.1
          have HI9 : Hid (CInv w a c b gb m (j + 1) sv [[⟨#[120]⟩]] l6 g8 T9 s5 fs5 w9) :=
            ⟨hs9, hd9, HO5.out, HF5.out, hT9, hB9, hr9, ha9, (fun h => by omega), (fun _ => ⟨HSV.out.symm, rfl, hm15⟩), by rw [file_one]; exact one_group ⟨#[120]⟩ (by decide)⟩
          clear hs9 hd9 hm9 hB9 hT9 hr9 ha9 Q5 HO5 HF5 HR8 HA8 HB8 HT8 HSV HSZ
          go_wp2_with fail
          refine qr.mono ?_
          rintro e w10 ⟨rfl, rfl⟩
          clear qr
          go_wp2
          go_roundw
          case rel => exact ⟨j + 1, _, _, _, _, _, _, _, hlt, by go_num, HI9⟩
          case measure => simp [intOf]; omega
        · skip
          have hsz : (⟨l6.toArray⟩ : ByteArray).size = m := by rw [text_size]; exact hrow6.2
          have hcv := hrow6.text
          obtain ⟨sv, hsv⟩ : ∃ s : ByteArray, (⟨l6.toArray⟩ : ByteArray) = s := ⟨_, rfl⟩
          rw [hsv] at hsz hcv
          have hj0 : j = 0 := by
            by_cases h0 : j = 0
            · exact h0
            · exact absurd (HI.out.some_ h0).2.2 hm15
          have qs := save_any a g c b T dirW ⟨j, base, false, logOf G false⟩ st HI.out.pw.ok HTOT.out (by decide) (by show j ≤ _; omega) sv (by omega) W6 hst6 hd6
          rw [saveS_long (by omega)] at qs
          have QS := Lib.hid qs; have HB6 := Lib.hid hB6
          have HLT := Lib.hid HI.out.lowT
          have HJ0 := Lib.hid hj0
          clear qs hst6 hd6 hB6 hsv hrow6 HI HTOT HBZ hsz haw6 hj0
          go_wp2_with fail
          refine QS.out.mono ?_
          rintro e w8 ⟨g8, T8, rfl, hs8, hd8, hm8⟩
          obtain ⟨hB8, hT8⟩ := Mv.hereS HB6.out hm8 ha hc hb0 HLT.out
          have HS8 := Lib.hid hs8; have HB8 := Lib.hid hB8
          clear hs8 hd8 hm8 hB8 hT8 HB6 HLT QS hcv
          go_wp2_with fail
          refine (alive7_any _).mono ?_
          rintro e w9 ⟨rfl, hb9⟩
          have qr := round_any (HS8.out.1.below hb9)
          have HB9 := Lib.hid (HB8.out.trans (hb9.mono HB8.out.size))
          rw [HJ0.out] at qr
          clear hb9 HB8 HS8
          go_wp2_with fail
          refine qr.mono ?_
          rintro e w10 ⟨rfl, rfl⟩
          clear qr
          go_wp2
          go_ret
          exact ⟨rfl, HB9.out⟩
    · skip
      obtain rfl : j = n := by omega
      have hbz := HI.out.bsz
      have q9 : Calls Tryz.prog 6 #[.pointer (some ⟨c, 0, none⟩), .string ⟨#[119]⟩] wr (OpenQ c b dirW j base G wr) := openQ c b dirW j base G (names_dirC j (by omega)) st fs _ HI.out.pw.on1 HI.out.files (opn_quiet (names_dirC j (by omega)) HI.out.files (fun h => (HI.out.zero h).1) hbz HI.out.fit) (Nat.le_trans (tot_quiet HI.out.files hbz (by have := HI.out.fsz; omega)) (by decide)) wr HI.out.dk
      clear hbz
      by_cases hj0 : j = 0
      · skip
        have hbase := (HI.out.zero hj0).1
        have hG := (HI.out.zero hj0).2
        subst hj0 hbase hG
        have HB0 := Lib.hid HI.out.bel
        clear HI
        go_wp2_with fail
        refine q9.mono ?_
        rintro e u5 ⟨a5, g5, T5, s5, fs5, rfl, hst5, hd5, ho5, hF5, ha5, hT5, hm5⟩
        have HB5 := Lib.hid (open_here HB0.out hm5 hc hb0)
        have q10 := base_any hst5.1
        rw [show baseOf 0 ⟨#[]⟩ = ⟨#[]⟩ from rfl, show decide ((0 : Nat) ≠ 0) = false from rfl] at q10
        have HD5 := Lib.hid hd5; have HO5 := Lib.hid ho5; have HF5 := Lib.hid hF5
        clear q9 hst5 hd5 ho5 hF5 ha5 hT5 hm5 HB0
        go_wp2_with fail
        refine q10.mono ?_
        rintro e u6 ⟨rfl, rfl⟩
        clear q10
        go_wp2_with fail
        refine (alive7_any _).mono ?_
        rintro e u7 ⟨rfl, hb7⟩
        have HB7 := Lib.hid (HB5.out.trans (hb7.mono HB5.out.size))
        have q11 := files_own c b s5 HO5.out.ok u7 (HD5.out.below hb7 HD5.out.lt HD5.out.ltb)
        have hfl := files_len HF5.out
        rw [if_pos rfl, ← HO5.out.fs_] at hfl
        rw [hfl] at q11
        clear hb7 HB5 hfl HD5 HO5 HF5
        go_wp2_with fail
        refine q11.mono ?_
        rintro e u8 ⟨v, rfl, hown, hb8⟩
        obtain ⟨A8, c8, rfl, _⟩ := own_form hown
        have HB8 := Lib.hid (HB7.out.trans (hb8.mono HB7.out.size))
        clear q11 hown hb8 HB7
        go_wp2
        go_ret
        exact ⟨rfl, HB8.out⟩
      · skip
        have hbase := (HI.out.some_ hj0).1
        have hG := (HI.out.some_ hj0).2.1
        subst hG
        have HB0 := Lib.hid HI.out.bel
        have HROW := Lib.hid HI.out.row
        have HAW := Lib.hid HI.out.away
        have HBS := Lib.hid hbase
        have hjp : 0 < j := by omega
        have HJ0 := Lib.hid hj0
        clear HI hbase hj0
        go_wp2_with fail
        refine q9.mono ?_
        rintro e u5 ⟨a5, g5, T5, s5, fs5, rfl, hst5, hd5, ho5, hF5, ha5, hT5, hm5⟩
        have HB5 := Lib.hid (open_here HB0.out hm5 hc hb0)
        have q10 := base_any hst5.1
        rw [show baseOf j base = base from if_neg HJ0.out, decide_eq_true HJ0.out] at q10
        have haw := HAW.out
        simp only [List.mem_cons, not_or] at haw
        have hr5 := (HROW.out.mv hm5 (by simp; omega)).1
        have HS5 := Lib.hid hst5; have HR5 := Lib.hid hr5
        have HD5 := Lib.hid hd5; have HO5 := Lib.hid ho5; have HF5 := Lib.hid hF5
        clear q9 hst5 hd5 ho5 hF5 ha5 hT5 hm5 HB0 haw hr5 HROW HAW
        go_wp2_with fail
        refine q10.mono ?_
        rintro e u6 ⟨rfl, rfl⟩
        clear q10
        go_wp2_with fail
        refine (alive7_any _).mono ?_
        rintro e u7 ⟨rfl, hb7⟩
        have HB7 := Lib.hid (HB5.out.trans (hb7.mono HB5.out.size))
        have q11 := files_own c b s5 HO5.out.ok u7 (HD5.out.below hb7 HD5.out.lt HD5.out.ltb)
        have hfl := files_len HF5.out
        rw [if_neg HJ0.out, ← HO5.out.fs_] at hfl
        rw [hfl] at q11
        have HS7 := Lib.hid (HS5.out.below hb7)
        have HR7 := Lib.hid (HR5.out.keep (hb7.block gb HR5.out.lt.2))
        clear hb7 HB5 hfl HD5 HO5 HF5 HS5 HR5
        go_wp2_with fail
        refine q11.mono ?_
        rintro e u8 ⟨v, rfl, hown, hb8⟩
        obtain ⟨A8, c8, rfl, _⟩ := own_form hown
        have HB8 := Lib.hid (HB7.out.trans (hb8.mono HB7.out.size))
        have hs8 := HS7.out.below hb8
        have hr8 := HR7.out.keep (hb8.block gb HR7.out.lt.2)
        have hcv := hr8.text
        rw [← HBS.out] at hcv
        have qg := groups_any g5 c T5 _ _ u8 hs8.2.1
        rw [show (((logOf [[(⟨#[120]⟩ : ByteArray)]] false).groups : Nat) : Int) = 1 from rfl] at qg
        have e5 := hs8.1.cell0
        clear q11 hown hb8 HB7 HS7 HR7 hs8 hr8 HBS
        go_wp2_with fail
        refine qg.mono ?_
        rintro e u9 ⟨rfl, rfl⟩
        clear qg
        go_wp2
        go_ret
        exact ⟨rfl, HB8.out⟩
theorem sclean_all (n size : Int) (w : World) :
    Calls Tryz.prog 4 #[.int .i64 n, .int .i64 size] w fun e w' => e = .returned (.bool true) ∧ Below w.heap.size w w' := by
  by_cases h : n < 0 ∨ 12 < n ∨ size < 0 ∨ 150001 < size
  · exact sclean_bad n size w h
  · obtain ⟨k, rfl⟩ : ∃ k : Nat, n = k := ⟨n.toNat, by omega⟩
    obtain ⟨m, rfl⟩ : ∃ m : Nat, size = m := ⟨size.toNat, by omega⟩
    exact sclean_walk k m (by omega) (by omega) w
end Go.Proofs.YtjhinifmdjlblaaGreat
