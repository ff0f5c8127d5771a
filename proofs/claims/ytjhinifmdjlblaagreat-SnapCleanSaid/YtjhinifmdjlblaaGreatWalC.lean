/-
  Package wal on a disk with one file: Open and Commit as contracts in groups; chapter 6's first call.
  Conditions: disks and logs that the call has made; files of at most 200000 bytes.
-/
import Derived.Test.YtjhinifmdjlblaaGreatWalD
namespace Go.Proofs.YtjhinifmdjlblaaGreat
open Go.RowKit Go.Maps Go.Sort
set_option maxRecDepth 100000

/-- A name that can be a log's. -/
structure LogName (nm : ByteArray) : Prop where
  v : validB nm = true
  v' : validB (spareOf nm) = true
  ne : spareOf nm ≠ nm
  sm : nm.size ≤ 1000000
/-- What Open hands back: a log with these groups, on a disk with its file alone. -/
def OpenG (c b : Nat) (nm : ByteArray) (G : List (List ByteArray)) (w : World) (e : Ending) (w' : World) : Prop :=
  ∃ g T st', e = .returned (.tuple #[.pointer (some ⟨g, 0, none⟩), .int .i64 0]) ∧ LogAt g c T nm (logOf G false) w' ∧ DkAt c b st' w' ∧ On1 st' (oneF nm (fileOf G) ((fileOf G).size : Nat)) ∧ (∀ k, k ∈ T → w.heap.size ≤ k) ∧ Mv [c, b] [c, b] w w'
theorem openA (c b : Nat) (nm : ByteArray) (hn : LogName nm) (st : Dk) (w : World) (hd : DkAt c b st w) (h : On1 st (.map [])) : Calls Tryz.prog 28 #[.pointer (some ⟨c, 0, none⟩), .string nm] w (OpenG c b nm [] w) := by
  obtain ⟨st', e, h'⟩ := open_fresh h hn.v
  have q := open_any c b nm st h.ok w hd hn.sm (by rw [h.fs_]; exact Nat.zero_le _)
  rw [e] at q
  refine q.mono ?_
  rintro r w' ⟨v, rfl, ⟨g, T, rfl, h1, h2⟩, h3, h4⟩
  exact ⟨g, T, st', rfl, h1, h3, h', h2, h4⟩
theorem openB (c b : Nat) (nm : ByteArray) (hn : LogName nm) (G : List (List ByteArray)) (x : ByteArray) (n : Int) (st : Dk) (w : World) (hd : DkAt c b st w) (h : On1 st (oneF nm (fileOf G ++ x) n)) (h0 : 0 ≤ n) (h1 : n ≤ ((fileOf G ++ x).size : Int))
    (hg : lgOf (Wal.goodOf (fileOf G ++ x).data.toList) false = logOf G false ∧ (Wal.goodOf (fileOf G ++ x).data.toList).size = (fileOf G).size) (hx : x.size = 0 → n = ((fileOf G).size : Nat)) (hz : (fileOf G).size + x.size ≤ 200000) :
    Calls Tryz.prog 28 #[.pointer (some ⟨c, 0, none⟩), .string nm] w (OpenG c b nm G w) := by
  have hs : (fileOf G ++ x).size = (fileOf G).size + x.size := size_app' _ _
  have q := open_any c b nm st h.ok w hd hn.sm (by rw [h.fs_, at_one]; show (fileOf G ++ x).size ≤ _; omega)
  by_cases hx0 : x.size = 0
  · have hxe : x = ⟨#[]⟩ := of_data (by have := len_data x; rw [hx0] at this; rw [List.eq_nil_of_length_eq_zero this])
    have hfe : fileOf G ++ x = fileOf G := of_data (by rw [Sm.data_append, hxe]; simp)
    rw [open_good h (by rw [hg.2, hs]; omega)] at q
    rw [hfe, hx hx0] at h
    refine q.mono ?_
    rintro r w' ⟨v, rfl, ⟨g, T, rfl, k1, k2⟩, k3, k4⟩
    rw [hg.1] at k1
    exact ⟨g, T, st, rfl, k1, k3, h, k2, k4⟩
  · obtain ⟨st', e, h'⟩ := open_mend h hn.v hn.v' hn.ne h0 h1 (by rw [hg.2, hs]; omega) (by omega)
    rw [e] at q
    have hcut : (fileOf G ++ x).extract 0 (fileOf G).size = fileOf G := of_data (by
      rw [Sm.extract_data', Sm.data_append, ← len_data]
      simp)
    rw [hg.2, hcut] at h'
    refine q.mono ?_
    rintro r w' ⟨v, rfl, ⟨g, T, rfl, k1, k2⟩, k3, k4⟩
    rw [hg.1] at k1
    exact ⟨g, T, st', rfl, k1, k3, h', k2, k4⟩
/-- A log's blocks are none of the disk's. -/
theorem LogAt.apart {g c b : Nat} {T : List Nat} {nm : ByteArray} {lg : Lg} {st : Dk} {w : World} (h : LogAt g c T nm lg w) (hd : DkAt c b st w) : ∀ k, k ∈ T → k ≠ c ∧ k ≠ b := by
  obtain ⟨v, rfl, h2, h3, h4⟩ := h
  obtain ⟨es, clock, hb, _⟩ := hd.2.1
  have hc := hd.1
  intro k hk
  simp only [List.mem_cons, Option.mem_toList] at hk
  rcases hk with rfl | hk
  · refine ⟨fun e => ?_, fun e => ?_⟩
    · subst e; rw [h2] at hc; injection hc with hc; injection hc with _ ht; exact absurd ht (by decide)
    · subst e; rw [h2] at hb; cases hb
  · rcases h3.2 with ⟨rfl, _⟩ | ⟨g', cap, cur, rfl, _, hh, _⟩
    · simp [Value.ownBlock] at hk
    · obtain rfl : g' = k := by simpa [Value.ownBlock] using hk
      refine ⟨fun e => ?_, fun e => ?_⟩
      · subst e; rw [hh] at hc; injection hc with hc; injection hc with _ ht; exact absurd ht (by decide)
      · subst e; rw [hh] at hb; cases hb
def CommitG (g c b : Nat) (T : List Nat) (nm : ByteArray) (w : World) (x : Int) (lg' : Lg) (st' : Dk) (e : Ending) (w' : World) : Prop :=
  ∃ T', e = .returned (.int .i64 x) ∧ LogAt g c T' nm lg' w' ∧ DkAt c b st' w' ∧ Mv (c :: b :: T) (c :: b :: T') w w'
/-- A commit of what lies in a slice. -/
theorem commit_at (g c b : Nat) (T : List Nat) (nm : ByteArray) (lg : Lg) (st : Dk) (ss : List ByteArray) (x : Int) (lg' : Lg) (st' : Dk) (hr : commitR nm lg st ss = (x, lg', st')) (hok : st.Ok) (n : Nat) (hn : ss.length = n) (A : Option Addr) (cp : Nat) (w : World) (h : LogAt g c T nm lg w) (hd : DkAt c b st w)
    (B : Nat) (hrd : Reads w B 1 A n (strs ss)) (hB : B ≤ w.heap.size) (hA : 0 < n → ∀ ad, A = some ad → ad.block ∉ T ∧ ad.block ≠ c ∧ ad.block ≠ b) (hnm : nm.size ≤ 1000000) (htot : total ss ≤ 50000000) (hL : n ≤ 1000000) (hrl : lg.recs.length ≤ 1000000) (hgl : lg.groups ≤ 1000000000) (hzl : lg.size ≤ 1000000000) :
    Calls Tryz.prog 33 #[.pointer (some ⟨g, 0, none⟩), .slice A n cp] w (CommitG g c b T nm w x lg' st') := by
  subst hn
  have q := commit_any g c b T nm lg st hok ss A cp w h hd (h.apart hd) (hrd.more hB) hA hnm htot hL (fun s hs => by have := size_le_total hs; omega) hrl hgl hzl
  rw [hr] at q
  exact q
/-- A commit of what lies in a new block. -/
theorem commit_lit (g c b : Nat) (T : List Nat) (nm : ByteArray) (lg : Lg) (st : Dk) (ss : List ByteArray) (x : Int) (lg' : Lg) (st' : Dk) (hr : commitR nm lg st ss = (x, lg', st')) (hok : st.Ok) (n : Nat) (hn : ss.length = n) (cs : Array Value) (hcs : cs.toList = strs ss) (t : TypeId) (s cp : Nat) (w : World) (hs : s = w.heap.size) (h : LogAt g c T nm lg w) (hd : DkAt c b st w)
    (hnm : nm.size ≤ 1000000) (htot : total ss ≤ 50000000) (hL : n ≤ 1000000) (hrl : lg.recs.length ≤ 1000000) (hgl : lg.groups ≤ 1000000000) (hzl : lg.size ≤ 1000000000) :
    Calls Tryz.prog 33 #[.pointer (some ⟨g, 0, none⟩), .slice (some ⟨s, 0, none⟩) n cp] (w.alloc (.cells cs t)) (CommitG g c b T nm w x lg' st') := by
  subst hs
  have hlc := hd.lt
  have hlb := hd.ltb
  have q := commit_at g c b T nm lg st ss x lg' st' hr hok n hn (some ⟨w.heap.size, 0, none⟩) cp (w.alloc (.cells cs t)) (h.alloc _) (hd.alloc _) (w.heap.size + 1) (reads_newV w (strs ss) t cs hcs (by rw [strs_len]; exact hn) rfl (Nat.lt_succ_self _)) (by simp) (fun _ ad e => by injection e with e; subst e; exact ⟨fun hm => by have := h.there _ hm; exact absurd this (Nat.lt_irrefl _), show w.heap.size ≠ c by omega, show w.heap.size ≠ b by omega⟩) hnm htot hL hrl hgl hzl
  refine q.mono ?_
  rintro e w' ⟨T', rfl, k1, k2, k3⟩
  exact ⟨T', rfl, k1, k2, ((Mv.refl _ _).alloc _).trans k3⟩
/-- What a call leaves that turns a disk and a log, both of the call's own. -/
theorem Mv.here {c b : Nat} {T T' : List Nat} {w0 w w' : World} (hB : Below w0.heap.size w0 w) (hm : Mv (c :: b :: T) (c :: b :: T') w w') (hc : w0.heap.size ≤ c) (hb : w0.heap.size ≤ b) (hT : ∀ k, k ∈ T → w0.heap.size ≤ k) : Below w0.heap.size w0 w' ∧ ∀ k, k ∈ T' → w0.heap.size ≤ k := by
  have hs := hB.size
  refine ⟨hB.trans ⟨hm.os, hm.tape, hm.output, hm.size, fun k hk => hm.block k (by omega) (fun e => ?_)⟩, fun k hk => ?_⟩
  · simp only [List.mem_cons] at e
    rcases e with rfl | rfl | e
    · omega
    · omega
    · have := hT k e; omega
  · rcases hm.link k (by simp [hk]) with h | h
    · simp only [List.mem_cons] at h
      rcases h with rfl | rfl | h
      · exact hc
      · exact hb
      · exact hT k h
    · omega
theorem name_x : LogName ⟨#[120]⟩ := ⟨by kernel_rfl, by kernel_rfl, by intro h; have := congrArg ByteArray.size h; revert this; decide, by decide⟩
theorem name_w : LogName ⟨#[119]⟩ := ⟨by kernel_rfl, by kernel_rfl, by intro h; have := congrArg ByteArray.size h; revert this; decide, by decide⟩
def ssA : List ByteArray := [⟨#[97]⟩, ⟨#[98]⟩]
def ssC : List ByteArray := [⟨#[99]⟩]
theorem size_nil : (fileOf []).size = 0 := rfl
theorem sizeA : (groupB ssA).size ≤ 100 := by have := group_len ssA; have h1 : total ssA = 2 := rfl; have h2 : ssA.length = 2 := rfl; omega
theorem sizeC : (groupB ssC).size ≤ 100 := by have := group_len ssC; have h1 : total ssC = 1 := rfl; have h2 : ssC.length = 1 := rfl; omega
theorem sizeAA : (fileOf [ssA]).size = (groupB ssA).size := by
  have := fileOf_snoc [] ssA
  rw [List.nil_append] at this
  rw [this, size_app', size_nil, Nat.zero_add]
theorem sizeAC : (fileOf [ssA, ssC]).size = (groupB ssA).size + (groupB ssC).size := by
  have := fileOf_snoc [ssA] ssC
  rw [List.cons_append, List.nil_append] at this
  rw [this, size_app', sizeAA]
theorem mv_file (c b : Nat) {T : List Nat} {w w' : World} (h : Mv [c, b] [c, b] w w') : Mv (c :: b :: T) (c :: b :: T) w w' := h.wide (by intro k hk; simp at hk ⊢; omega)
theorem mv_file' (c b : Nat) {T : List Nat} {w w' : World} (h : Mv [c, b] [c, b] w w') : Mv (c :: b :: T) [c, b] w w' := ⟨h.os, h.tape, h.output, h.size, fun k hk hn => h.block k hk (fun e => hn (by simp at e ⊢; omega)), fun k hk => .inl (by simp at hk ⊢; omega)⟩
theorem open_here {c b : Nat} {w0 w w' : World} (hB : Below w0.heap.size w0 w) (hm : Mv [c, b] [c, b] w w') (hc : w0.heap.size ≤ c) (hb : w0.heap.size ≤ b) : Below w0.heap.size w0 w' :=
  hB.trans ⟨hm.os, hm.tape, hm.output, hm.size, fun k hk => hm.block k (Nat.lt_of_lt_of_le hk hB.size) (by simp; omega)⟩
theorem own_three {w : World} {B : Nat} {v : Value} {x y z : ByteArray} (h : w.ownsRow B 9 1 v 3 (strs [x, y, z])) : ∃ q cap, v = .slice (some ⟨q, 0, none⟩) 3 cap ∧ w.cell? ⟨q, 0, none⟩ = some (.string x) ∧ w.cell? ⟨q, 2, none⟩ = some (.string z) := by
  obtain ⟨q, cap, rfl, _, _⟩ := h.form (by omega)
  have hc := h.cells (g := q) rfl
  exact ⟨q, cap, rfl, hc 0 _ rfl, hc 2 _ rfl⟩
theorem recsAC : (logOf [ssA, ssC] false).recs = [⟨#[97]⟩, ⟨#[98]⟩, ⟨#[99]⟩] := rfl
theorem fitA : FitG ssA := ⟨by decide, rfl⟩
theorem fitC : FitG ssC := ⟨by decide, rfl⟩
theorem fitAC : ∀ ss ∈ [ssA, ssC], FitG ss := by
  intro ss hs
  simp at hs
  rcases hs with rfl | rfl
  · exact fitA
  · exact fitC
end Go.Proofs.YtjhinifmdjlblaaGreat
