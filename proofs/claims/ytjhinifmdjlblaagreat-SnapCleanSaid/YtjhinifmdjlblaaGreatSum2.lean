/-
  Package sum's Frame as a contract, and what the laws do with texts (joined).
  Conditions: what is framed takes at most 10^9 bytes together.
-/
import Derived.Test.YtjhinifmdjlblaaGreatSum1
import Derived.Test.YtjhinifmdjlblaaGreatBuilder
namespace Go.Proofs.YtjhinifmdjlblaaGreat.Sm
open Go.RowKit

theorem ownsRow_below {w w' : World} {base : Nat} {e : TypeId} {size : Nat} {v : Value} {n : Nat} {xs : List Value} (h : w.ownsRow base e size v n xs) {B : Nat} (hb : Below B w w') (hB : w.heap.size ≤ B) : w'.ownsRow base e size v n xs := by
  obtain ⟨h1, h2⟩ := h
  refine ⟨h1, ?_⟩
  rcases h2 with h2 | ⟨g, cap, cur, hv, hg, hh, r⟩
  · exact .inl h2
  · have hlt : g < w.heap.size := by
      rcases Nat.lt_or_ge g w.heap.size with hlt | hge
      · exact hlt
      · rw [Array.getElem?_eq_none hge] at hh; cases hh
    exact .inr ⟨g, cap, cur, hv, hg, by rw [hb.block g (by omega)]; exact hh, r⟩
theorem builderAt_below {w w' : World} {T e : TypeId} {B b : Nat} {p : Value} {bs : List Value} (h : Lib.BuilderAt T e B b p bs w) {C : Nat} (hb : Below C w w') (hC : w.heap.size ≤ C) : Lib.BuilderAt T e B b p bs w' := by
  have hlt := h.lt
  obtain ⟨h1, v, h2, h3, h4⟩ := h
  exact ⟨h1, v, by rw [hb.block b (by omega)]; exact h2, ownsRow_below h3 hb hC, h4⟩
theorem isBuilder_below {w w' : World} {T e : TypeId} {B b : Nat} {bs : List Value} (h : Lib.IsBuilder T e B b bs w) {C : Nat} (hb : Below C w w') (hC : w.heap.size ≤ C) : Lib.IsBuilder T e B b bs w' := by
  rcases h with h | h
  · exact .inl (builderAt_below h hb hC)
  · exact .inr (builderAt_below h hb hC)
theorem below_drewN {B : Nat} {a w : World} (h : Below B a w) (n : Nat) : Below B a (w.drewN n) := ⟨h.os, h.tape, h.output, h.size, h.block⟩
theorem data_append (a b : ByteArray) : (a ++ b).data.toList = a.data.toList ++ b.data.toList := by simp
theorem data_mk (l : List UInt8) : (⟨l.toArray⟩ : ByteArray).data.toList = l := by simp
/-- One text in a new block of its own. -/
theorem reads_one (w : World) (s : ByteArray) (t : TypeId) : Reads (w.alloc (.cells #[.string s] t)) (w.heap.size + 1) 1 (some ⟨w.heap.size, 0, none⟩) 1 (strs [s]) :=
  ⟨rfl, fun _ => ⟨_, rfl, by simp, fun j u hu => by
    match j, hu with
    | 0, hu => simp [strs] at hu; subst hu; simp [go_sem]
    | j + 1, hu => simp [strs] at hu⟩⟩

def datas (ss : List ByteArray) : List (List UInt8) := ss.map (·.data.toList)
theorem datas_total (ss : List ByteArray) : Sum.total (datas ss) = total ss := by
  induction ss with
  | nil => rfl
  | cons s ss ih => 
    have h1 : Sum.total (datas (s :: ss)) = s.data.toList.length + Sum.total (datas ss) := by simp [Sum.total, datas]
    rw [h1, total_cons, ih, len_data]
theorem datas_take_snoc {ss : List ByteArray} {k : Nat} {s : ByteArray} (h : ss[k]? = some s) : datas (ss.take (k + 1)) = datas (ss.take k) ++ [s.data.toList] := by
  rw [take_snoc h]; simp [datas]

set_option maxHeartbeats 1000000 in
theorem frame_any (ss : List ByteArray) (A : Option Addr) (c : Nat) (w : World) (hr : Reads w w.heap.size 1 A ss.length (strs ss)) (hN : total ss + 8 * ss.length ≤ 1000000000) :
    Calls Tryz.prog 82 #[.slice A ss.length c] w fun e w' => e = .returned (.string ⟨(Sum.frames (datas ss)).toArray⟩) ∧ Below w.heap.size w w' := by
  generalize hn : ss.length = n at *
  have Hn := Lib.hid hn; clear hn
  have hfresh := Lib.fresh_isBuilder 107 5 w
  have hw0 : Below w.heap.size w (w.alloc (.cells #[.pointer none, .slice none 0 0] 107)) := (Below.refl _ _).alloc (Nat.le_refl _) _
  go_enter Tryz.func82, Tryz.ntmps82
  go_wp2
  go_loopw [8] (fun i wr => ∃ k : Nat, k ≤ n ∧ i = .int .i64 k ∧ Hid (Lib.IsBuilder 107 5 w.heap.size w.heap.size (Lib.byteCells (Sum.frames (datas (ss.take k)))) wr) ∧ Below w.heap.size w wr ∧ w.heap.size < wr.heap.size) (fun i _ => n - (intOf i).toNat)
  case atStart => exact ⟨0, Nat.zero_le _, rfl, hfresh, hw0, by simp⟩
  case round =>
    obtain ⟨k, hk, rfl, HI, hb, hlt1⟩ := hrel
    by_cases hlt : k < n
    · obtain ⟨ad, s, rfl, hbl, hsk, hc0⟩ := str_at hr hlt
      have hc : wr.cell? (ad.add k) = some (.string s) := by rw [hb.cell (by rw [block_of_add]; exact hbl)]; exact hc0
      have hst : s.size ≤ total ss := size_le_total (List.mem_of_getElem? hsk)
      have Hsk := Lib.hid hsk; clear hsk hc0
      go_wp2_with fail
      refine (four_any s.size (by omega) _).mono ?_
      rintro e w1 ⟨rfl, hb1⟩
      have hz1 := hb1.size
      go_wp2_with fail
      refine (crc_any [s] _ _ _ _ (reads_one w1 s 9) (by simp) (by simp; omega)).mono ?_
      rintro e w2 ⟨rfl, rfl⟩
      have hcs : cat [s] = s.data.toList := by simp [cat]
      rw [hcs]
      clear hcs
      go_wp2_with fail
      refine (four_any (Sum.crc s.data.toList) (Sum.crc_lt _) _).mono ?_
      rintro e w3 ⟨rfl, hb3⟩
      have hz3 : w1.heap.size + 1 ≤ w3.heap.size := by simpa using hb3.size
      have hb03 : Below wr.heap.size wr w3 := (hb1.alloc hz1 _).trans (hb3.mono (by simp; omega))
      have hI3 := isBuilder_below HI.out hb03 (Nat.le_refl _)
      have hbw3 : Below w.heap.size w w3 := hb.trans (hb03.mono (by omega))
      have f1 : (⟨(Sum.four s.size).toArray⟩ : ByteArray).size = 4 := rfl
      have f2 : (⟨(Sum.four (Sum.crc s.data.toList)).toArray⟩ : ByteArray).size = 4 := rfl
      have hlen : (Lib.byteCells (Sum.frames (datas (ss.take k)))).length ≤ total ss + 8 * n := by
        rw [Lib.byteCells_length, Sum.frames_length, datas_total]
        have := total_take_le ss k
        have h2 : (datas (ss.take k)).length ≤ n := by simp [datas]; have := Hn.out; omega
        omega
      have hsz2 : ((⟨(Sum.four s.size).toArray⟩ : ByteArray) ++ ⟨(Sum.four (Sum.crc s.data.toList)).toArray⟩ ++ s).size = 8 + s.size := by
        rw [ByteArray.size_append', ByteArray.size_append', f1, f2]
      clear hc hr
      go_wp2_with fail
      refine (Bld.write_any w.heap.size w.heap.size _ _ _ hI3 (by rw [hsz2]; omega) (by omega)).mono ?_
      rintro e w4 ⟨rfl, hI4, hb4⟩
      have hI5 : Lib.IsBuilder 107 5 w.heap.size w.heap.size (Lib.byteCells (Sum.frames (datas (ss.take (k + 1))))) w4 := by
        have e1 : Lib.byteCells (Sum.frames (datas (ss.take (k + 1)))) = Lib.byteCells (Sum.frames (datas (ss.take k))) ++ Lib.strCells (((⟨(Sum.four s.size).toArray⟩ : ByteArray) ++ ⟨(Sum.four (Sum.crc s.data.toList)).toArray⟩ ++ s)) := by
          rw [datas_take_snoc Hsk.out, Sum.frames_append, Lib.byteCells_append, Lib.strCells_eq, data_append, data_append, data_mk, data_mk]
          simp [Sum.frames, Sum.frame]
        rw [e1]
        exact hI4
      have HI5 := Lib.hid hI5
      have hz4 := hb4.size
      clear hI4 hI5 hI3 hsz2 hlen f1 f2
      go_wp2
      go_roundw
      case rel => exact ⟨k + 1, by omega, by go_num, HI5, hbw3.trans hb4, by omega⟩
      case measure => simp [intOf]; omega
    · have hI := HI.out
      rw [List.take_of_length_le (by have := Hn.out; omega)] at hI
      go_wp2_with fail
      refine (Bld.string_any w.heap.size w.heap.size _ _ hI (by omega)).mono ?_
      rintro e w1 ⟨rfl, hb1⟩
      go_wp2
      go_ret
      exact ⟨rfl, hb.trans hb1⟩
end Go.Proofs.YtjhinifmdjlblaaGreat.Sm
