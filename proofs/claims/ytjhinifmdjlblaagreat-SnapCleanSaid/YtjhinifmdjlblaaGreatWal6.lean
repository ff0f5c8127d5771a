/-
  Package wal: mend, and the two steps of Commit, as contracts.
  Conditions: disks and logs that the call has made.
-/
import Derived.Test.YtjhinifmdjlblaaGreatWal5
namespace Go.Proofs.YtjhinifmdjlblaaGreat
open Go.RowKit Go.Maps
set_option maxRecDepth 100000

def spareOf (nm : ByteArray) : ByteArray := nm ++ ⟨#[126]⟩
def mendD (nm y : ByteArray) (sz : Nat) : List (Dk → Int × Dk) :=
  [removeIf (spareOf nm), fun st => createD st (spareOf nm), fun st => appendD st (spareOf nm) (y.extract 0 sz), fun st => syncD st (spareOf nm), fun st => renameD st (spareOf nm) nm]
def commitD (nm y : ByteArray) : List (Dk → Int × Dk) := [fun st => appendD st nm y, fun st => syncD st nm]
theorem cell_new1 (w : World) (v : Value) (t : TypeId) : (w.alloc (.cells #[v] t)).cell? ⟨w.heap.size, 0, none⟩ = some v := by
  rw [Lib.cell_of_heap (heap_alloc_new w _)]; rfl
theorem cell_old (w : World) (o : Obj) {k i : Nat} {v : Value} (h : w.cell? ⟨k, i, none⟩ = some v) (hk : k < w.heap.size) : (w.alloc o).cell? ⟨k, i, none⟩ = some v := (World.cell?_alloc_lt w o ⟨k, i, none⟩ hk).trans h
set_option maxHeartbeats 2000000 in
theorem mend_any (g c b : Nat) (T : List Nat) (nm : ByteArray) (lg : Lg) (st : Dk) (hok : st.Ok) (y : ByteArray) (w : World) (h : LogAt g c T nm lg w) (hd : DkAt c b st w) (hgc : g ≠ c) (hgb : g ≠ b) (hn : nm.size ≤ 1000000) (hy : y.size ≤ 1000000000) (hsz : lg.size ≤ y.size) :
    Calls Tryz.prog 49 #[.pointer (some ⟨g, 0, none⟩), .string y] w fun e w' => e = .returned (.int .i64 (firstD (mendD nm y lg.size) st).1) ∧ DkAt c b (firstD (mendD nm y lg.size) st).2 w' ∧ Mv [c, b] [c, b] w w' := by
  have hg := h.lt
  have hc := hd.lt
  have hb := hd.ltb
  have e0 := h.cell0; have e1 := h.cell1; have e4 := h.cell4
  obtain ⟨W1, hW1⟩ : ∃ W, w.alloc (.cells #[.pointer (some ⟨g, 0, none⟩)] 24) = W := ⟨_, rfl⟩
  have z1 : W1.heap.size = w.heap.size + 1 := by rw [← hW1]; simp
  obtain ⟨W2, hW2⟩ : ∃ W, W1.alloc (.cells #[.string y] 9) = W := ⟨_, rfl⟩
  have z2 : W2.heap.size = w.heap.size + 2 := by rw [← hW2]; simp; omega
  obtain ⟨W3, hW3⟩ : ∃ W, W2.alloc (.cells #[.string (spareOf nm)] 9) = W := ⟨_, rfl⟩
  have z3 : W3.heap.size = w.heap.size + 3 := by rw [← hW3]; simp; omega
  obtain ⟨l, hl⟩ : ∃ l : List Fv, l = [⟨88, #[.pointer (some ⟨w.heap.size, 0, none⟩), .pointer (some ⟨w.heap.size + 2, 0, none⟩)]⟩, ⟨89, #[.pointer (some ⟨w.heap.size, 0, none⟩), .pointer (some ⟨w.heap.size + 2, 0, none⟩)]⟩,
    ⟨90, #[.pointer (some ⟨w.heap.size, 0, none⟩), .pointer (some ⟨w.heap.size + 2, 0, none⟩), .pointer (some ⟨w.heap.size + 1, 0, none⟩)]⟩, ⟨91, #[.pointer (some ⟨w.heap.size, 0, none⟩), .pointer (some ⟨w.heap.size + 2, 0, none⟩)]⟩,
    ⟨92, #[.pointer (some ⟨w.heap.size, 0, none⟩), .pointer (some ⟨w.heap.size + 2, 0, none⟩)]⟩] := ⟨_, rfl⟩
  have hll : l.length = 5 := by rw [hl]; rfl
  obtain ⟨W4, hW4⟩ : ∃ W, W3.alloc (.cells (fvs l).toArray 64) = W := ⟨_, rfl⟩
  have z4 : W4.heap.size = w.heap.size + 4 := by rw [← hW4]; simp; omega
  have k4 : ∀ {k i : Nat} {v : Value}, w.cell? ⟨k, i, none⟩ = some v → k < w.heap.size → W4.cell? ⟨k, i, none⟩ = some v := by
    intro k i v h1 h2
    rw [← hW4, ← hW3, ← hW2, ← hW1]
    exact cell_old _ _ (cell_old _ _ (cell_old _ _ (cell_old _ _ h1 h2) (by simp; omega)) (by simp; omega)) (by simp; omega)
  have p0 : W4.cell? ⟨w.heap.size, 0, none⟩ = some (.pointer (some ⟨g, 0, none⟩)) := by
    rw [← hW4]; refine cell_old _ _ ?_ (by omega)
    rw [← hW3]; refine cell_old _ _ ?_ (by omega)
    rw [← hW2]; refine cell_old _ _ ?_ (by omega)
    rw [← hW1]; exact cell_new1 _ _ _
  have p1 : W4.cell? ⟨w.heap.size + 1, 0, none⟩ = some (.string y) := by
    rw [← hW4]; refine cell_old _ _ ?_ (by omega)
    rw [← hW3]; refine cell_old _ _ ?_ (by omega)
    rw [← hW2, ← z1]; exact cell_new1 _ _ _
  have p2 : W4.cell? ⟨w.heap.size + 2, 0, none⟩ = some (.string (spareOf nm)) := by
    rw [← hW4]; refine cell_old _ _ ?_ (by omega)
    rw [← hW3, ← z2]; exact cell_new1 _ _ _
  have q0 := k4 e0 hg; have q1 := k4 e1 hg; have q4 := k4 e4 hg
  have hd4 : DkAt c b st W4 := by rw [← hW4, ← hW3, ← hW2, ← hW1]; exact (((hd.alloc _).alloc _).alloc _).alloc _
  have hm4 : Mv [c, b] [c, b] w W4 := by rw [← hW4, ← hW3, ← hW2, ← hW1]; exact ((((Mv.refl _ _).alloc _).alloc _).alloc _).alloc _
  have hsp : (spareOf nm).size ≤ 9223372036854775807 := by unfold spareOf; rw [size_app']; have : (⟨#[126]⟩ : ByteArray).size = 1 := rfl; omega
  have hD : ∀ (k : Nat) (x : Fv) (d : Dk → Int × Dk), l[k]? = some x → (mendD nm y lg.size)[k]? = some d → Does c b W4 x d ∧ ∀ st : Dk, st.Ok → (d st).2.Ok := by
    intro k x d hx hd
    subst hl
    match k, hx, hd with
    | 0, hx, hd =>
      simp [mendD] at hx hd; subst hx hd
      exact ⟨⟨fun _ => by kernel_rfl, fun st W ok hk hm => mend1_any c b _ g _ st ok _ hsp W hk (mv_keep hm ⟨by omega, by omega⟩ p0) (mv_keep hm ⟨hgc, hgb⟩ q0) (mv_keep hm ⟨by omega, by omega⟩ p2) ⟨by omega, by omega⟩ ⟨hgc, hgb⟩ ⟨by omega, by omega⟩⟩, fun st ok => removeIf_ok ok _⟩
    | 1, hx, hd =>
      simp [mendD] at hx hd; subst hx hd
      exact ⟨⟨fun _ => by kernel_rfl, fun st W ok hk hm => mend2_any c b _ g _ st ok _ hsp W hk (mv_keep hm ⟨by omega, by omega⟩ p0) (mv_keep hm ⟨hgc, hgb⟩ q0) (mv_keep hm ⟨by omega, by omega⟩ p2) ⟨by omega, by omega⟩ ⟨hgc, hgb⟩ ⟨by omega, by omega⟩⟩, fun st ok => create_ok ok _⟩
    | 2, hx, hd =>
      simp [mendD] at hx hd; subst hx hd
      exact ⟨⟨fun _ => by kernel_rfl, fun st W ok hk hm => mend3_any c b _ g _ _ st ok _ hsp _ hy _ hsz W hk (mv_keep hm ⟨by omega, by omega⟩ p0) (mv_keep hm ⟨hgc, hgb⟩ q0) (mv_keep hm ⟨by omega, by omega⟩ p2) (mv_keep hm ⟨by omega, by omega⟩ p1) (mv_keep hm ⟨hgc, hgb⟩ q4) ⟨by omega, by omega⟩ ⟨hgc, hgb⟩ ⟨by omega, by omega⟩ ⟨by omega, by omega⟩⟩, fun st ok => append_ok ok _ _⟩
    | 3, hx, hd =>
      simp [mendD] at hx hd; subst hx hd
      exact ⟨⟨fun _ => by kernel_rfl, fun st W ok hk hm => mend4_any c b _ g _ st ok _ hsp W hk (mv_keep hm ⟨by omega, by omega⟩ p0) (mv_keep hm ⟨hgc, hgb⟩ q0) (mv_keep hm ⟨by omega, by omega⟩ p2) ⟨by omega, by omega⟩ ⟨hgc, hgb⟩ ⟨by omega, by omega⟩⟩, fun st ok => sync_ok ok _⟩
    | 4, hx, hd =>
      simp [mendD] at hx hd; subst hx hd
      exact ⟨⟨fun _ => by kernel_rfl, fun st W ok hk hm => mend5_any c b _ g _ st ok _ hsp _ W hk (mv_keep hm ⟨by omega, by omega⟩ p0) (mv_keep hm ⟨hgc, hgb⟩ q0) (mv_keep hm ⟨by omega, by omega⟩ p2) (mv_keep hm ⟨hgc, hgb⟩ q1) ⟨by omega, by omega⟩ ⟨hgc, hgb⟩ ⟨by omega, by omega⟩⟩, fun st ok => rename_ok ok _ _⟩
    | k + 5, hx, hd => simp [mendD] at hd
  have hrd : Reads W4 (w.heap.size + 4) 1 (some ⟨w.heap.size + 3, 0, none⟩) l.length (fvs l) := by
    rw [← hW4]
    exact reads_newV W3 (fvs l) _ _ rfl (by simp [fvs]) (by omega) (by omega)
  have q := first_any c b st hok l (mendD nm y lg.size) (by rw [hll]; rfl) (some ⟨w.heap.size + 3, 0, none⟩) 5 _ W4 hd4 hrd (by omega) (fun ad e => by injection e with e; subst e; exact ⟨show w.heap.size + 3 ≠ c by omega, show w.heap.size + 3 ≠ b by omega⟩) (by omega) hD
  rw [hll] at q
  obtain ⟨r, hr⟩ : ∃ r, firstD (mendD nm y lg.size) st = r := ⟨_, rfl⟩
  rw [hr] at q ⊢
  have Q := Lib.hid q
  have HM := Lib.hid hm4
  have HW : Hid ((((w.alloc (.cells #[.pointer (some ⟨g, 0, none⟩)] 24)).alloc (.cells #[.string y] 9)).alloc (.cells #[.string (spareOf nm)] 9)).alloc (.cells (fvs l).toArray 64) = W4) := by
    show _ = _
    rw [hW1, hW2, hW3, hW4]
  have hmf := makes
  have e1' : ((w.alloc (.cells #[.pointer (some ⟨g, 0, none⟩)] 24)).alloc (.cells #[.string y] 9)).cell? ⟨g, 1, none⟩ = some (.string nm) := cell_old _ _ (cell_old _ _ e1 hg) (by simp; omega)
  clear q hr hm4 hW1 hW2 hW3 hW4 hrd hD hd4 q0 q1 q4 p0 p1 p2 k4 z1 z2 z3 z4 e0 e4 h hd hok hll
  go_enter Tryz.func49, Tryz.ntmps49
  go_wp2_with fail
  have q := Q.out
  rw [← HW.out] at q
  subst hl
  refine q.mono ?_
  rintro e w5 ⟨rfl, h5, hm5⟩
  have H5 := Lib.hid h5
  have HM5 := Lib.hid (HM.out.trans (HW.out ▸ hm5))
  clear q h5 hm5 Q HW HM
  go_wp2
  go_ret
  exact ⟨rfl, H5.out, HM5.out⟩
set_option maxHeartbeats 2000000 in
/-- The two steps of Commit. -/
theorem steps_any (g c b p x : Nat) (nm y : ByteArray) (st : Dk) (hok : st.Ok) (w : World) (hd : DkAt c b st w) (e0 : w.cell? ⟨g, 0, none⟩ = some (.pointer (some ⟨c, 0, none⟩))) (e1 : w.cell? ⟨g, 1, none⟩ = some (.string nm)) (ep : w.cell? ⟨p, 0, none⟩ = some (.pointer (some ⟨g, 0, none⟩)))
    (ex : w.cell? ⟨x, 0, none⟩ = some (.string y)) (hg : g ≠ c ∧ g ≠ b) (hp : p ≠ c ∧ p ≠ b) (hx : x ≠ c ∧ x ≠ b) (hn : nm.size ≤ 9223372036854775807) (hy : y.size ≤ 1000000000) (s : Nat) (hs : s = w.heap.size) :
    Calls Tryz.prog 68 #[.slice (some ⟨s, 0, none⟩) 2 2] (w.alloc (.cells #[.func (.func 69) #[] #[.pointer (some ⟨p, 0, none⟩), .pointer (some ⟨x, 0, none⟩)], .func (.func 70) #[] #[.pointer (some ⟨p, 0, none⟩)]] 64))
      fun e w' => e = .returned (.int .i64 (firstD (commitD nm y) st).1) ∧ DkAt c b (firstD (commitD nm y) st).2 w' ∧ Mv [c, b] [c, b] w w' := by
  subst hs
  have hc := hd.lt
  have hb := hd.ltb
  obtain ⟨l, hl⟩ : ∃ l : List Fv, l = [⟨69, #[.pointer (some ⟨p, 0, none⟩), .pointer (some ⟨x, 0, none⟩)]⟩, ⟨70, #[.pointer (some ⟨p, 0, none⟩)]⟩] := ⟨_, rfl⟩
  have hll : l.length = 2 := by rw [hl]; rfl
  obtain ⟨W, hW⟩ : ∃ W, w.alloc (.cells (fvs l).toArray 64) = W := ⟨_, rfl⟩
  have z : W.heap.size = w.heap.size + 1 := by rw [← hW]; simp
  have k4 : ∀ {k : Nat} {i : Nat} {v : Value}, w.cell? ⟨k, i, none⟩ = some v → W.cell? ⟨k, i, none⟩ = some v := by
    intro k i v h1
    rw [← hW]
    refine cell_old _ _ h1 ?_
    rcases Nat.lt_or_ge k w.heap.size with hlt | hge
    · exact hlt
    · unfold World.cell? at h1
      rw [Array.getElem?_eq_none hge] at h1
      simp at h1
  have hd4 : DkAt c b st W := by rw [← hW]; exact hd.alloc _
  have hm4 : Mv [c, b] [c, b] w W := by rw [← hW]; exact (Mv.refl _ _).alloc _
  have hD : ∀ (k : Nat) (v : Fv) (d : Dk → Int × Dk), l[k]? = some v → (commitD nm y)[k]? = some d → Does c b W v d ∧ ∀ st : Dk, st.Ok → (d st).2.Ok := by
    intro k v d hv hd
    subst hl
    match k, hv, hd with
    | 0, hv, hd =>
      simp [commitD] at hv hd; subst hv hd
      exact ⟨⟨fun _ => by kernel_rfl, fun st W' ok hk hm => commit2_any c b _ g _ st ok _ hn _ hy W' hk (mv_keep hm hp (k4 ep)) (mv_keep hm hg (k4 e0)) (mv_keep hm hg (k4 e1)) (mv_keep hm hx (k4 ex)) hp hg hx⟩, fun st ok => append_ok ok _ _⟩
    | 1, hv, hd =>
      simp [commitD] at hv hd; subst hv hd
      exact ⟨⟨fun _ => by kernel_rfl, fun st W' ok hk hm => commit3_any c b _ g st ok _ hn W' hk (mv_keep hm hp (k4 ep)) (mv_keep hm hg (k4 e0)) (mv_keep hm hg (k4 e1)) hp hg⟩, fun st ok => sync_ok ok _⟩
    | k + 2, hv, hd => simp [commitD] at hd
  have hrd : Reads W (w.heap.size + 1) 1 (some ⟨w.heap.size, 0, none⟩) l.length (fvs l) := by
    rw [← hW]
    exact reads_newV w (fvs l) _ _ rfl (by simp [fvs]) rfl (by omega)
  have q := first_any c b st hok l (commitD nm y) (by rw [hll]; rfl) (some ⟨w.heap.size, 0, none⟩) 2 _ W hd4 hrd (by omega) (fun ad e => by injection e with e; subst e; exact ⟨show w.heap.size ≠ c by omega, show w.heap.size ≠ b by omega⟩) (by omega) hD
  rw [hll] at q
  subst hl
  rw [← hW] at q
  refine q.mono ?_
  rintro e w5 ⟨rfl, h5, hm5⟩
  exact ⟨rfl, h5, hm4.trans (by rw [← hW]; exact hm5)⟩
end Go.Proofs.YtjhinifmdjlblaaGreat
