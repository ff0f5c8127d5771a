/-
  Texts of one chapter joined: XSn7, XSn8.
  Conditions: each lemma's own premises.
-/
import Derived.Test.YtjhinifmdjlblaaGreatSn6
namespace Go.Proofs.YtjhinifmdjlblaaGreat
open Go.RowKit Go.Maps
set_option maxRecDepth 100000

theorem cell_lti {w : World} {k i : Nat} {v : Value} (h : w.cell? ⟨k, i, none⟩ = some v) : k < w.heap.size := by
  rcases Nat.lt_or_ge k w.heap.size with hlt | hge
  · exact hlt
  · unfold World.cell? at h
    rw [Array.getElem?_eq_none hge] at h
    simp at h
/-- A cell of a block that is not written. -/
theorem keep_below {w w' : World} {k i : Nat} {v : Value} (hb : Below w.heap.size w w') (h : w.cell? ⟨k, i, none⟩ = some v) : w'.cell? ⟨k, i, none⟩ = some v := by
  have hlt : k < w.heap.size := cell_lti h
  exact (hb.cell (show (⟨k, i, none⟩ : Addr).block < _ from hlt)).trans h
/-- What a step has at hand: the store's pointer, its disk, name and round. -/
structure Hand (p a c n : Nat) (dir : ByteArray) (W : World) : Prop where
  cp : W.cell? ⟨p, 0, none⟩ = some (.pointer (some ⟨a, 0, none⟩))
  c1 : W.cell? ⟨a, 1, none⟩ = some (.pointer (some ⟨c, 0, none⟩))
  c2 : W.cell? ⟨a, 2, none⟩ = some (.string dir)
  c3 : W.cell? ⟨a, 3, none⟩ = some (.int .i64 n)
theorem Hand.below {p a c n : Nat} {dir : ByteArray} {w w' : World} (h : Hand p a c n dir w) (hb : Below w.heap.size w w') : Hand p a c n dir w' := ⟨keep_below hb h.cp, keep_below hb h.c1, keep_below hb h.c2, keep_below hb h.c3⟩
theorem Hand.mv {p a c n : Nat} {dir : ByteArray} {S S' : List Nat} {w w' : World} (h : Hand p a c n dir w) (hm : Mv S S' w w') (hp : p ∉ S) (ha : a ∉ S) : Hand p a c n dir w' := ⟨mv_apart hm hp h.cp, mv_apart hm ha h.c1, mv_apart hm ha h.c2, mv_apart hm ha h.c3⟩
theorem wk6 (dir : ByteArray) (h : dir.size ≤ 20) : (workB dir).size ≤ 9223372036854775807 := by have := work_size dir; omega
theorem pic6 (dir : ByteArray) (n : Nat) (h : dir.size ≤ 20) (hn : n ≤ 9223372036854775807) : (picB dir n).size ≤ 1000000 := by have h1 := dirS_size dir; have h2 := digB_size' n hn; show (dirS dir ++ digB n).size ≤ _; rw [size_app']; omega
theorem lg6 (dir : ByteArray) (n : Nat) (h : dir.size ≤ 20) (hn : n ≤ 9223372036854775807) : (lgB dir n).size ≤ 1000000 := by have h1 := dirL_size dir; have h2 := digB_size' n hn; show (dirL dir ++ digB n).size ≤ _; rw [size_app']; omega
set_option maxHeartbeats 1000000 in
theorem next1_any (c b p a n : Nat) (dir : ByteArray) (hd : dir.size ≤ 20) (_hn : n ≤ 9223372036854775806) (st : Dk) (hok : st.Ok) (w : World) (h : DkAt c b st w) (hh : Hand p a c n dir w) (np : p ≠ c ∧ p ≠ b) (na : a ≠ c ∧ a ≠ b) :
    Calls Tryz.prog 52 #[.pointer (some ⟨p, 0, none⟩)] w fun e w' => e = .returned (.int .i64 (removeIf (workB dir) st).1) ∧ DkAt c b (removeIf (workB dir) st).2 w' ∧ Mv [c, b] [c, b] w w' := by
  have cp := hh.cp; have c1 := hh.c1; have c2 := hh.c2; have c3 := hh.c3
  have hal : a < w.heap.size := cell_lti c1
  have hlc := h.lt; have hlb := h.ltb
  have hdr : DkAt c b st w.drew := h
  have qc := wremove_any c b st hok (workB dir) (wk6 dir hd) w.drew h
  have qw := work_any a dir (by omega) w.drew c2
  obtain ⟨r, hr⟩ : ∃ r, removeIf (workB dir) st = r := ⟨_, rfl⟩
  rw [hr] at qc ⊢
  clear hr hh
  go_enter Tryz.func52, Tryz.ntmps52
  go_wp2
  go_region_held3 (fun W => W.cell? ⟨p, 0, none⟩ = some (.pointer (some ⟨a, 0, none⟩)) ∧ W.cell? ⟨a, 1, none⟩ = some (.pointer (some ⟨c, 0, none⟩)) ∧ W.cell? ⟨a, 2, none⟩ = some (.string dir)) (first | exact ⟨cp, c1, c2⟩ | exact ⟨mv_keep hm2 np cp, mv_keep hm2 na c1, mv_keep hm2 na c2⟩)
    (first | (go_at_call 54; (with_reducible refine qw.mono ?_); rintro e w1 ⟨rfl, rfl⟩) | (go_at_call 53; (with_reducible refine qc.mono ?_); rintro e w2 ⟨rfl, h2, hm2⟩))
  all_goals
    have H2 := Lib.hid h2
    have HM2 := Lib.hid (((Mv.refl [c, b] w).drewN 1).trans hm2)
    clear h2 hm2 qc
    go_wp2
    go_ret
    exact ⟨rfl, H2.out, HM2.out⟩
set_option maxHeartbeats 1000000 in
theorem next2_any (c b p a n : Nat) (dir : ByteArray) (hd : dir.size ≤ 20) (_hn : n ≤ 9223372036854775806) (st : Dk) (hok : st.Ok) (w : World) (h : DkAt c b st w) (hh : Hand p a c n dir w) (np : p ≠ c ∧ p ≠ b) (na : a ≠ c ∧ a ≠ b) :
    Calls Tryz.prog 55 #[.pointer (some ⟨p, 0, none⟩)] w fun e w' => e = .returned (.int .i64 (createD st (workB dir)).1) ∧ DkAt c b (createD st (workB dir)).2 w' ∧ Mv [c, b] [c, b] w w' := by
  have cp := hh.cp; have c1 := hh.c1; have c2 := hh.c2; have c3 := hh.c3
  have hal : a < w.heap.size := cell_lti c1
  have hlc := h.lt; have hlb := h.ltb
  have hdr : DkAt c b st w.drew := h
  have qc := create_any c b st hok (workB dir) (wk6 dir hd) w.drew h
  have qw := work_any a dir (by omega) w.drew c2
  obtain ⟨r, hr⟩ : ∃ r, createD st (workB dir) = r := ⟨_, rfl⟩
  rw [hr] at qc ⊢
  clear hr hh
  go_enter Tryz.func55, Tryz.ntmps55
  go_wp2
  go_region_held3 (fun W => W.cell? ⟨p, 0, none⟩ = some (.pointer (some ⟨a, 0, none⟩)) ∧ W.cell? ⟨a, 1, none⟩ = some (.pointer (some ⟨c, 0, none⟩)) ∧ W.cell? ⟨a, 2, none⟩ = some (.string dir)) (first | exact ⟨cp, c1, c2⟩ | exact ⟨mv_keep hm2 np cp, mv_keep hm2 na c1, mv_keep hm2 na c2⟩)
    (first | (go_at_call 54; (with_reducible refine qw.mono ?_); rintro e w1 ⟨rfl, rfl⟩) | (go_at_call 47; (with_reducible refine qc.mono ?_); rintro e w2 ⟨rfl, h2, hm2⟩))
  all_goals
    have H2 := Lib.hid h2
    have HM2 := Lib.hid (((Mv.refl [c, b] w).drewN 1).trans hm2)
    clear h2 hm2 qc
    go_wp2
    go_ret
    exact ⟨rfl, H2.out, HM2.out⟩
set_option maxHeartbeats 1000000 in
theorem next4_any (c b p a n : Nat) (dir : ByteArray) (hd : dir.size ≤ 20) (_hn : n ≤ 9223372036854775806) (st : Dk) (hok : st.Ok) (w : World) (h : DkAt c b st w) (hh : Hand p a c n dir w) (np : p ≠ c ∧ p ≠ b) (na : a ≠ c ∧ a ≠ b) :
    Calls Tryz.prog 58 #[.pointer (some ⟨p, 0, none⟩)] w fun e w' => e = .returned (.int .i64 (syncD st (workB dir)).1) ∧ DkAt c b (syncD st (workB dir)).2 w' ∧ Mv [c, b] [c, b] w w' := by
  have cp := hh.cp; have c1 := hh.c1; have c2 := hh.c2; have c3 := hh.c3
  have hal : a < w.heap.size := cell_lti c1
  have hlc := h.lt; have hlb := h.ltb
  have hdr : DkAt c b st w.drew := h
  have qc := sync_any c b st hok (workB dir) (wk6 dir hd) w.drew h
  have qw := work_any a dir (by omega) w.drew c2
  obtain ⟨r, hr⟩ : ∃ r, syncD st (workB dir) = r := ⟨_, rfl⟩
  rw [hr] at qc ⊢
  clear hr hh
  go_enter Tryz.func58, Tryz.ntmps58
  go_wp2
  go_region_held3 (fun W => W.cell? ⟨p, 0, none⟩ = some (.pointer (some ⟨a, 0, none⟩)) ∧ W.cell? ⟨a, 1, none⟩ = some (.pointer (some ⟨c, 0, none⟩)) ∧ W.cell? ⟨a, 2, none⟩ = some (.string dir)) (first | exact ⟨cp, c1, c2⟩ | exact ⟨mv_keep hm2 np cp, mv_keep hm2 na c1, mv_keep hm2 na c2⟩)
    (first | (go_at_call 54; (with_reducible refine qw.mono ?_); rintro e w1 ⟨rfl, rfl⟩) | (go_at_call 59; (with_reducible refine qc.mono ?_); rintro e w2 ⟨rfl, h2, hm2⟩))
  all_goals
    have H2 := Lib.hid h2
    have HM2 := Lib.hid (((Mv.refl [c, b] w).drewN 1).trans hm2)
    clear h2 hm2 qc
    go_wp2
    go_ret
    exact ⟨rfl, H2.out, HM2.out⟩
set_option maxHeartbeats 1000000 in
theorem next7_any (c b p a n : Nat) (dir : ByteArray) (hd : dir.size ≤ 20) (hn : n ≤ 9223372036854775806) (st : Dk) (hok : st.Ok) (w : World) (h : DkAt c b st w) (hh : Hand p a c n dir w) (np : p ≠ c ∧ p ≠ b) (na : a ≠ c ∧ a ≠ b) :
    Calls Tryz.prog 63 #[.pointer (some ⟨p, 0, none⟩)] w fun e w' => e = .returned (.int .i64 (removeIf (picB dir n) st).1) ∧ DkAt c b (removeIf (picB dir n) st).2 w' ∧ Mv [c, b] [c, b] w w' := by
  have cp := hh.cp; have c1 := hh.c1; have c2 := hh.c2; have c3 := hh.c3
  have hal : a < w.heap.size := cell_lti c1
  have hlc := h.lt; have hlb := h.ltb
  have hdr : DkAt c b st w.drew := h
  have qw := picture_any a n dir (by omega) (by omega) w.drew c2 hal
  have qc := fun W h => Lib.hid (wremove_any c b st hok (picB dir n) (by have := pic6 dir n hd (by omega); omega) W h)
  obtain ⟨r, hr⟩ : ∃ r, removeIf (picB dir n) st = r := ⟨_, rfl⟩
  rw [hr] at qc ⊢
  clear hr hh
  go_enter Tryz.func63, Tryz.ntmps63
  go_wp2
  go_region_held3 (fun W => W.cell? ⟨p, 0, none⟩ = some (.pointer (some ⟨a, 0, none⟩)) ∧ W.cell? ⟨a, 1, none⟩ = some (.pointer (some ⟨c, 0, none⟩)) ∧ W.cell? ⟨a, 2, none⟩ = some (.string dir) ∧ W.cell? ⟨a, 3, none⟩ = some (.int .i64 n)) (first | exact ⟨cp, c1, c2, c3⟩ | exact ⟨keep_below hb1 cp, keep_below hb1 c1, keep_below hb1 c2, keep_below hb1 c3⟩ | exact ⟨mv_keep hm2 np (keep_below hb1 cp), mv_keep hm2 na (keep_below hb1 c1), mv_keep hm2 na (keep_below hb1 c2), mv_keep hm2 na (keep_below hb1 c3)⟩)
    (first | (go_at_call 26; (with_reducible refine qw.mono ?_); rintro e w1 ⟨rfl, hb1⟩) | (go_at_call 53; (with_reducible refine (qc w1 (hdr.below hb1 hdr.lt hdr.ltb)).out.mono ?_); rintro e w2 ⟨rfl, h2, hm2⟩))
  all_goals
    have H2 := Lib.hid h2
    have HM2 := Lib.hid ((((Mv.refl [c, b] w).drewN 1).then_below hb1).trans hm2)
    clear h2 hm2 qc
    go_wp2
    go_ret
    exact ⟨rfl, H2.out, HM2.out⟩
set_option maxHeartbeats 1000000 in
theorem next8_any (c b p a n : Nat) (dir : ByteArray) (hd : dir.size ≤ 20) (hn : n ≤ 9223372036854775806) (st : Dk) (hok : st.Ok) (w : World) (h : DkAt c b st w) (hh : Hand p a c n dir w) (np : p ≠ c ∧ p ≠ b) (na : a ≠ c ∧ a ≠ b) :
    Calls Tryz.prog 64 #[.pointer (some ⟨p, 0, none⟩)] w fun e w' => e = .returned (.int .i64 (removeIf (lgB dir n) st).1) ∧ DkAt c b (removeIf (lgB dir n) st).2 w' ∧ Mv [c, b] [c, b] w w' := by
  have cp := hh.cp; have c1 := hh.c1; have c2 := hh.c2; have c3 := hh.c3
  have hal : a < w.heap.size := cell_lti c1
  have hlc := h.lt; have hlb := h.ltb
  have hdr : DkAt c b st w.drew := h
  have qw := slog_any a n dir (by omega) (by omega) w.drew c2 hal
  have qc := fun W h => Lib.hid (wremove_any c b st hok (lgB dir n) (by have := lg6 dir n hd (by omega); omega) W h)
  obtain ⟨r, hr⟩ : ∃ r, removeIf (lgB dir n) st = r := ⟨_, rfl⟩
  rw [hr] at qc ⊢
  clear hr hh
  go_enter Tryz.func64, Tryz.ntmps64
  go_wp2
  go_region_held3 (fun W => W.cell? ⟨p, 0, none⟩ = some (.pointer (some ⟨a, 0, none⟩)) ∧ W.cell? ⟨a, 1, none⟩ = some (.pointer (some ⟨c, 0, none⟩)) ∧ W.cell? ⟨a, 2, none⟩ = some (.string dir) ∧ W.cell? ⟨a, 3, none⟩ = some (.int .i64 n)) (first | exact ⟨cp, c1, c2, c3⟩ | exact ⟨keep_below hb1 cp, keep_below hb1 c1, keep_below hb1 c2, keep_below hb1 c3⟩ | exact ⟨mv_keep hm2 np (keep_below hb1 cp), mv_keep hm2 na (keep_below hb1 c1), mv_keep hm2 na (keep_below hb1 c2), mv_keep hm2 na (keep_below hb1 c3)⟩)
    (first | (go_at_call 29; (with_reducible refine qw.mono ?_); rintro e w1 ⟨rfl, hb1⟩) | (go_at_call 53; (with_reducible refine (qc w1 (hdr.below hb1 hdr.lt hdr.ltb)).out.mono ?_); rintro e w2 ⟨rfl, h2, hm2⟩))
  all_goals
    have H2 := Lib.hid h2
    have HM2 := Lib.hid ((((Mv.refl [c, b] w).drewN 1).then_below hb1).trans hm2)
    clear h2 hm2 qc
    go_wp2
    go_ret
    exact ⟨rfl, H2.out, HM2.out⟩
set_option maxHeartbeats 1000000 in
theorem next3_any (c b p a n : Nat) (dir : ByteArray) (hd : dir.size ≤ 20) (_hn : n ≤ 9223372036854775806) (st : Dk) (hok : st.Ok) (q : Nat) (state : ByteArray) (hz : state.size ≤ 150000) (w : World) (cq : w.cell? ⟨q, 0, none⟩ = some (.string state)) (nq : q ≠ c ∧ q ≠ b) (h : DkAt c b st w) (hh : Hand p a c n dir w) (np : p ≠ c ∧ p ≠ b) (na : a ≠ c ∧ a ≠ b) :
    Calls Tryz.prog 56 #[.pointer (some ⟨p, 0, none⟩), .pointer (some ⟨q, 0, none⟩)] w fun e w' => e = .returned (.int .i64 (appendD st (workB dir) (layBA state)).1) ∧ DkAt c b (appendD st (workB dir) (layBA state)).2 w' ∧ Mv [c, b] [c, b] w w' := by
  have cp := hh.cp; have c1 := hh.c1; have c2 := hh.c2; have c3 := hh.c3
  have hal : a < w.heap.size := cell_lti c1
  have hlc := h.lt; have hlb := h.ltb
  have hdr : DkAt c b st w.drew := h
  have qw := work_any a dir (by omega) w.drew c2
  have ql := lay_any state (by omega) w.drew
  have qc := fun W h => Lib.hid (append_any c b st hok (workB dir) (layBA state) (wk6 dir hd) (by have := layBA_size state hz; omega) W h)
  obtain ⟨r, hr⟩ : ∃ r, appendD st (workB dir) (layBA state) = r := ⟨_, rfl⟩
  rw [hr] at qc ⊢
  clear hr hh
  go_enter Tryz.func56, Tryz.ntmps56
  go_wp2
  go_region_held3 (fun W => W.cell? ⟨p, 0, none⟩ = some (.pointer (some ⟨a, 0, none⟩)) ∧ W.cell? ⟨a, 1, none⟩ = some (.pointer (some ⟨c, 0, none⟩)) ∧ W.cell? ⟨a, 2, none⟩ = some (.string dir) ∧ W.cell? ⟨q, 0, none⟩ = some (.string state)) (first | exact ⟨cp, c1, c2, cq⟩ | exact ⟨keep_below hb1 cp, keep_below hb1 c1, keep_below hb1 c2, keep_below hb1 cq⟩ | exact ⟨mv_keep hm2 np (keep_below hb1 cp), mv_keep hm2 na (keep_below hb1 c1), mv_keep hm2 na (keep_below hb1 c2), mv_keep hm2 nq (keep_below hb1 cq)⟩)
    (first | (go_at_call 54; (with_reducible refine qw.mono ?_); rintro e w1 ⟨rfl, rfl⟩) | (go_at_call 46; (with_reducible refine ql.mono ?_); rintro e w1 ⟨rfl, hb1⟩) | (go_at_call 57; (with_reducible refine (qc w1 (hdr.below hb1 hdr.lt hdr.ltb)).out.mono ?_); rintro e w2 ⟨rfl, h2, hm2⟩))
  all_goals
    have H2 := Lib.hid h2
    have HM2 := Lib.hid ((((Mv.refl [c, b] w).drewN 1).then_below hb1).trans hm2)
    clear h2 hm2 qc
    go_wp2
    go_ret
    exact ⟨rfl, H2.out, HM2.out⟩
set_option maxHeartbeats 1000000 in
theorem next5_any (c b p a n : Nat) (dir : ByteArray) (hd : dir.size ≤ 20) (_hn : n ≤ 9223372036854775806) (st : Dk) (hok : st.Ok) (x m : Nat) (hm : m ≤ 9223372036854775807) (w : World) (cx : w.cell? ⟨x, 0, none⟩ = some (.int .i64 m)) (nx : x ≠ c ∧ x ≠ b) (h : DkAt c b st w) (hh : Hand p a c n dir w) (np : p ≠ c ∧ p ≠ b) (na : a ≠ c ∧ a ≠ b) :
    Calls Tryz.prog 60 #[.pointer (some ⟨p, 0, none⟩), .pointer (some ⟨x, 0, none⟩)] w fun e w' => e = .returned (.int .i64 (renameD st (workB dir) (picB dir m)).1) ∧ DkAt c b (renameD st (workB dir) (picB dir m)).2 w' ∧ Mv [c, b] [c, b] w w' := by
  have cp := hh.cp; have c1 := hh.c1; have c2 := hh.c2; have c3 := hh.c3
  have hal : a < w.heap.size := cell_lti c1
  have hlc := h.lt; have hlb := h.ltb
  have hdr : DkAt c b st w.drew := h
  have qw := work_any a dir (by omega) w.drew c2
  have ql := picture_any a m dir (by omega) hm w.drew c2 hal
  have qc := fun W h => Lib.hid (rename_any c b st hok (workB dir) (picB dir m) (wk6 dir hd) W h)
  obtain ⟨r, hr⟩ : ∃ r, renameD st (workB dir) (picB dir m) = r := ⟨_, rfl⟩
  rw [hr] at qc ⊢
  clear hr hh
  go_enter Tryz.func60, Tryz.ntmps60
  go_wp2
  go_region_held3 (fun W => W.cell? ⟨p, 0, none⟩ = some (.pointer (some ⟨a, 0, none⟩)) ∧ W.cell? ⟨a, 1, none⟩ = some (.pointer (some ⟨c, 0, none⟩)) ∧ W.cell? ⟨a, 2, none⟩ = some (.string dir) ∧ W.cell? ⟨x, 0, none⟩ = some (.int .i64 m)) (first | exact ⟨cp, c1, c2, cx⟩ | exact ⟨keep_below hb1 cp, keep_below hb1 c1, keep_below hb1 c2, keep_below hb1 cx⟩ | exact ⟨mv_keep hm2 np (keep_below hb1 cp), mv_keep hm2 na (keep_below hb1 c1), mv_keep hm2 na (keep_below hb1 c2), mv_keep hm2 nx (keep_below hb1 cx)⟩)
    (first | (go_at_call 54; (with_reducible refine qw.mono ?_); rintro e w1 ⟨rfl, rfl⟩) | (go_at_call 26; (with_reducible refine ql.mono ?_); rintro e w1 ⟨rfl, hb1⟩) | (go_at_call 61; (with_reducible refine (qc w1 (hdr.below hb1 hdr.lt hdr.ltb)).out.mono ?_); rintro e w2 ⟨rfl, h2, hm2⟩))
  all_goals
    have H2 := Lib.hid h2
    have HM2 := Lib.hid ((((Mv.refl [c, b] w).drewN 1).then_below hb1).trans hm2)
    clear h2 hm2 qc
    go_wp2
    go_ret
    exact ⟨rfl, H2.out, HM2.out⟩
def OpenLPost (c b lb : Nat) (nm : ByteArray) (w : World) (r : Int × Dk × Option Wal.Gs) (e : Ending) (w' : World) : Prop :=
  ∃ v, e = .returned (.int .i64 r.1) ∧ LogBack c w.heap.size nm w' v r.2.2 ∧ Blk w' lb 24 #[v] ∧ DkAt c b r.2.1 w' ∧ Mv [lb, c, b] [lb, c, b] w w'
set_option maxHeartbeats 1000000 in
theorem next6_any (c b p a n : Nat) (dir : ByteArray) (hd : dir.size ≤ 20) (st : Dk) (hok : st.Ok) (x m lb : Nat) (hm : m ≤ 9223372036854775807) (v0 : Value) (hf : totF st.fs ≤ 100000000) (w : World) (cx : w.cell? ⟨x, 0, none⟩ = some (.int .i64 m)) (nx : x ≠ c ∧ x ≠ b) (h : DkAt c b st w) (hh : Hand p a c n dir w) (np : p ≠ c ∧ p ≠ b) (na : a ≠ c ∧ a ≠ b)
    (hl : Blk w lb 24 #[v0]) (nl : lb ≠ c ∧ lb ≠ b ∧ lb ≠ p ∧ lb ≠ a ∧ lb ≠ x) :
    Calls Tryz.prog 62 #[.pointer (some ⟨p, 0, none⟩), .pointer (some ⟨x, 0, none⟩), .pointer (some ⟨lb, 0, none⟩)] w (OpenLPost c b lb (lgB dir m) w (openD (lgB dir m) st)) := by
  have cp := hh.cp; have c1 := hh.c1; have c2 := hh.c2
  have hal : a < w.heap.size := cell_lti c1
  have hpl : p < w.heap.size := cell_lti cp
  have hxl : x < w.heap.size := cell_lti cx
  have hll := hl.lt
  have hdr : DkAt c b st w.drew := h
  have hfz : (fileAt st.fs (lgB dir m)).1.size ≤ 100000000 := by have := fileAt_le hok.good (lgB dir m); omega
  have qw := slog_any a m dir (by omega) hm w.drew c2 hal
  have qc := fun W h => Lib.hid (open_any c b (lgB dir m) st hok W h (lg6 dir m hd hm) hfz)
  obtain ⟨r, hr⟩ : ∃ r, openD (lgB dir m) st = r := ⟨_, rfl⟩
  rw [hr] at qc ⊢
  obtain ⟨nl1, nl2, nl3, nl4, nl5⟩ := nl
  have HL := Lib.hid hl
  have c1s : ∀ (W : World) (k i : Nat) (u v : Value), lb ≠ k → W.cell? ⟨k, i, none⟩ = some v → (W.setCell ⟨lb, 0, none⟩ u).cell? ⟨k, i, none⟩ = some v := fun W k i u v hne hc => (World.cell?_setCell_other W ⟨lb, 0, none⟩ ⟨k, i, none⟩ u (fun e => by first | exact hne (congrArg Addr.block e) | exact hne (congrArg Addr.block e).symm)).trans hc
  clear hr hh hl hfz
  obtain ⟨r1, r2, r3⟩ := r
  cases r3 with
  | none =>
    go_enter Tryz.func62, Tryz.ntmps62
    go_wp2
    go_region_held3 (fun W => W.cell? ⟨p, 0, none⟩ = some (.pointer (some ⟨a, 0, none⟩)) ∧ W.cell? ⟨a, 1, none⟩ = some (.pointer (some ⟨c, 0, none⟩)) ∧ W.cell? ⟨a, 2, none⟩ = some (.string dir) ∧ W.cell? ⟨x, 0, none⟩ = some (.int .i64 m))
      (first | exact ⟨cp, c1, c2, cx⟩ | exact ⟨keep_below hb1 cp, keep_below hb1 c1, keep_below hb1 c2, keep_below hb1 cx⟩ | exact ⟨mv_keep hm2 np (keep_below hb1 cp), mv_keep hm2 na (keep_below hb1 c1), mv_keep hm2 na (keep_below hb1 c2), mv_keep hm2 nx (keep_below hb1 cx)⟩ | exact ⟨c1s _ _ _ _ _ nl3 (mv_keep hm2 np (keep_below hb1 cp)), c1s _ _ _ _ _ nl4 (mv_keep hm2 na (keep_below hb1 c1)), c1s _ _ _ _ _ nl4 (mv_keep hm2 na (keep_below hb1 c2)), c1s _ _ _ _ _ nl5 (mv_keep hm2 nx (keep_below hb1 cx))⟩)
      (first | (go_at_call 29; (with_reducible refine qw.mono ?_); rintro e w1 ⟨rfl, hb1⟩) | (go_at_call 28; (with_reducible refine (qc w1 (hdr.below hb1 hdr.lt hdr.ltb)).out.mono ?_); rintro e w2 ⟨_, rfl, rfl, h2, hm2⟩; have hbl : Blk w2 lb 24 #[v0] := (hm2.block lb (Nat.lt_of_lt_of_le hll hb1.size) (by simp [nl1, nl2])).trans ((hb1.block lb hll).trans HL.out); have fz := hbl.frozen 0; have cz := hbl.cell 0))
    all_goals
      have HM2 : Hid (Mv [lb, c, b] [lb, c, b] w (w2.setCell ⟨lb, 0, none⟩ (.pointer none))) := by
        show Mv _ _ _ _
        exact (((((Mv.refl [c, b] w).drewN 1).then_below hb1).trans hm2).wide (by simp)).set_ (g := lb) (by simp) 0 _
      have HK2 : Hid (DkAt c b r2 (w2.setCell ⟨lb, 0, none⟩ (.pointer none))) := by
        show DkAt _ _ _ _
        exact h2.mv (mv_celli lb 0 _ w2) (by simp; omega) (by simp; omega)
      have HB2 : Hid (Blk (w2.setCell ⟨lb, 0, none⟩ (.pointer none)) lb 24 #[.pointer none]) := by
        show Blk _ _ _ _
        exact hbl.set_ 0 (.pointer none)
      clear h2 hm2 qc hbl fz cz
      go_wp2
      go_ret
      exact ⟨_, rfl, rfl, HB2.out, HK2.out, HM2.out⟩
  | some gs =>
    go_enter Tryz.func62, Tryz.ntmps62
    go_wp2
    go_region_held3 (fun W => W.cell? ⟨p, 0, none⟩ = some (.pointer (some ⟨a, 0, none⟩)) ∧ W.cell? ⟨a, 1, none⟩ = some (.pointer (some ⟨c, 0, none⟩)) ∧ W.cell? ⟨a, 2, none⟩ = some (.string dir) ∧ W.cell? ⟨x, 0, none⟩ = some (.int .i64 m))
      (first | exact ⟨cp, c1, c2, cx⟩ | exact ⟨keep_below hb1 cp, keep_below hb1 c1, keep_below hb1 c2, keep_below hb1 cx⟩ | exact ⟨mv_keep hm2 np (keep_below hb1 cp), mv_keep hm2 na (keep_below hb1 c1), mv_keep hm2 na (keep_below hb1 c2), mv_keep hm2 nx (keep_below hb1 cx)⟩ | exact ⟨c1s _ _ _ _ _ nl3 (mv_keep hm2 np (keep_below hb1 cp)), c1s _ _ _ _ _ nl4 (mv_keep hm2 na (keep_below hb1 c1)), c1s _ _ _ _ _ nl4 (mv_keep hm2 na (keep_below hb1 c2)), c1s _ _ _ _ _ nl5 (mv_keep hm2 nx (keep_below hb1 cx))⟩)
      (first | (go_at_call 29; (with_reducible refine qw.mono ?_); rintro e w1 ⟨rfl, hb1⟩) | (go_at_call 28; (with_reducible refine (qc w1 (hdr.below hb1 hdr.lt hdr.ltb)).out.mono ?_); rintro e w2 ⟨_, rfl, ⟨g, T, rfl, hlg, hT⟩, h2, hm2⟩; have hbl : Blk w2 lb 24 #[v0] := (hm2.block lb (Nat.lt_of_lt_of_le hll hb1.size) (by simp [nl1, nl2])).trans ((hb1.block lb hll).trans HL.out); have fz := hbl.frozen 0; have cz := hbl.cell 0))
    all_goals
      have HM2 : Hid (Mv [lb, c, b] [lb, c, b] w (w2.setCell ⟨lb, 0, none⟩ (.pointer (some ⟨g, 0, none⟩)))) := by
        show Mv _ _ _ _
        exact (((((Mv.refl [c, b] w).drewN 1).then_below hb1).trans hm2).wide (by simp)).set_ (g := lb) (by simp) 0 _
      have HK2 : Hid (DkAt c b r2 (w2.setCell ⟨lb, 0, none⟩ (.pointer (some ⟨g, 0, none⟩)))) := by
        show DkAt _ _ _ _
        exact h2.mv (mv_celli lb 0 _ w2) (by simp; omega) (by simp; omega)
      have HB2 : Hid (Blk (w2.setCell ⟨lb, 0, none⟩ (.pointer (some ⟨g, 0, none⟩))) lb 24 #[.pointer (some ⟨g, 0, none⟩)]) := by
        show Blk _ _ _ _
        exact hbl.set_ 0 (.pointer (some ⟨g, 0, none⟩))
      have hbz : w.heap.size ≤ w1.heap.size := hb1.size
      have hlbT : lb ∉ T := fun e => by have := hT lb e; omega
      have HLG : Hid (LogAt g c T (lgB dir m) (lgOf gs false) (w2.setCell ⟨lb, 0, none⟩ (.pointer (some ⟨g, 0, none⟩)))) := by
        show LogAt _ _ _ _ _ _
        exact hlg.aside (mv_celli lb 0 _ w2) (fun k hk => by intro e; simp at e; subst e; exact hlbT hk)
      have HTT : Hid (∀ k, k ∈ T → w.heap.size ≤ k) := fun k hk => Nat.le_trans hbz (hT k hk)
      clear h2 hm2 qc hbl fz cz hlg hT hlbT hbz
      go_wp2
      go_ret
      exact ⟨_, rfl, ⟨g, T, rfl, HLG.out, HTT.out⟩, HB2.out, HK2.out, HM2.out⟩
end Go.Proofs.YtjhinifmdjlblaaGreat
namespace Go.Proofs.YtjhinifmdjlblaaGreat
open Go.RowKit Go.Maps
set_option maxRecDepth 100000

/-! ### no operation makes a disk too great -/
def Tot6 (st : Dk) : Prop := totF st.fs ≤ 1000000
theorem opD_tot {st : Dk} (h : Tot6 st) : Tot6 (opD st).1 := by unfold Tot6 at *; rw [opD_fs]; exact h
theorem doD_tot {st : Dk} (ok : st.Ok) (h : Tot6 st) (W : Dk → Int) (K : Dk → Dk) (hK : ∀ x : Dk, x.Ok → Tot6 x → W x = 0 → Tot6 (K x)) : Tot6 (doD st W K).2 := by
  unfold doD
  have h1 := opD_tot h
  have ok1 := opD_ok ok
  split
  · split
    · exact h1
    · split
      · rename_i hw
        exact hK _ ok1 h1 hw
      · exact h1
  · exact h
theorem create_tot {st : Dk} (ok : st.Ok) (h : Tot6 st) (s : ByteArray) : Tot6 (createD st s).2 := doD_tot ok h _ _ fun x hx ht _ => by
  have := totF_put_le hx.good s ⟨#[]⟩ 0
  have e : (⟨#[]⟩ : ByteArray).size = 0 := rfl
  unfold Tot6 at *
  show totF (putF x.fs s ⟨#[]⟩ 0) ≤ _
  omega
theorem sync_tot {st : Dk} (ok : st.Ok) (h : Tot6 st) (s : ByteArray) : Tot6 (syncD st s).2 := doD_tot ok h _ _ fun x hx ht _ => by
  have t1 := totF_del hx.good s
  have t2 := totF_put hx.good s (fileAt x.fs s).1 ((fileAt x.fs s).1.size : Nat)
  unfold Tot6 at *
  show totF (putF x.fs s _ _) ≤ _
  omega
theorem remove_tot {st : Dk} (ok : st.Ok) (h : Tot6 st) (s : ByteArray) : Tot6 (removeD st s).2 := doD_tot ok h _ _ fun x hx ht _ => by
  have t1 := totF_del_le hx.good s
  unfold Tot6 at *
  show totF (delF x.fs s) ≤ _
  omega
theorem removeIf_tot {st : Dk} (ok : st.Ok) (h : Tot6 st) (s : ByteArray) : Tot6 (removeIf s st).2 := by
  unfold removeIf
  split
  · exact remove_tot ok h s
  · exact h
theorem rename_tot {st : Dk} (ok : st.Ok) (h : Tot6 st) (s t : ByteArray) : Tot6 (renameD st s t).2 := doD_tot ok h _ _ fun x hx ht _ => by
  have t1 := totF_del hx.good s
  have t2 := totF_put_le (hx.good.del s) t (fileAt x.fs s).1 (fileAt x.fs s).2
  unfold Tot6 at *
  show totF (putF (delF x.fs s) t _ _) ≤ _
  omega
theorem append_tot {st : Dk} (ok : st.Ok) (h : Tot6 st) (s x : ByteArray) : Tot6 (appendD st s x).2 := by
  have h1 := opD_tot h
  have ok1 := opD_ok ok
  unfold appendD
  by_cases hon : st.on = true
  · rw [if_pos hon]
    show Tot6 (if appendW (opD st).1 s x = 0 then putsD (opD st).1 s x else (opD st).1)
    obtain ⟨y, hy⟩ : ∃ y, (opD st).1 = y := ⟨_, rfl⟩
    rw [hy] at h1 ok1 ⊢
    by_cases hw : appendW y s x = 0
    · rw [if_pos hw]
      unfold appendW at hw
      have hg := ok1.good
      by_cases hh : hasS y.fs s = true
      · rw [if_pos hh] at hw
        by_cases hf : 400000 < totF y.fs + x.size
        · rw [if_pos hf] at hw; omega
        · have hsz := size_app' (fileAt y.fs s).1 x
          have t1 := totF_del hg s
          have t2 := totF_put hg s ((fileAt y.fs s).1 ++ x) (fileAt y.fs s).2
          show totF (putF y.fs s _ _) ≤ _
          omega
      · rw [if_neg hh] at hw; omega
    · rw [if_neg hw]
      exact h1
  · rw [if_neg hon]
    exact h
theorem firstD_tot : ∀ (D : List (Dk → Int × Dk)), (∀ d ∈ D, ∀ st : Dk, st.Ok → Tot6 st → (d st).2.Ok ∧ Tot6 (d st).2) → ∀ st : Dk, st.Ok → Tot6 st → Tot6 (firstD D st).2
  | [], _, _, _, h => h
  | d :: D, hD, st, ok, h => by
    unfold firstD
    have h1 := hD d (by simp) st ok h
    split
    · exact firstD_tot D (fun e he => hD e (by simp [he])) _ h1.1 h1.2
    · exact h1.2
theorem mendD_tot (nm y : ByteArray) (sz : Nat) : ∀ d ∈ mendD nm y sz, ∀ st : Dk, st.Ok → Tot6 st → (d st).2.Ok ∧ Tot6 (d st).2 := by
  intro d hd st h ht
  refine ⟨mendD_ok nm y sz d hd st h, ?_⟩
  unfold mendD at hd
  simp only [List.mem_cons, List.not_mem_nil, or_false] at hd
  rcases hd with rfl | rfl | rfl | rfl | rfl
  · exact removeIf_tot h ht _
  · exact create_tot h ht _
  · exact append_tot h ht _ _
  · exact sync_tot h ht _
  · exact rename_tot h ht _ _
theorem openD_tot {st : Dk} (h : st.Ok) (ht : Tot6 st) (nm : ByteArray) : Tot6 (openD nm st).2.1 := by
  unfold openD
  have hp : (if (readD st nm).2 = 7 then createD st nm else ((readD st nm).2, st)).2.Ok ∧ Tot6 (if (readD st nm).2 = 7 then createD st nm else ((readD st nm).2, st)).2 := by
    split
    · exact ⟨create_ok h nm, create_tot h ht nm⟩
    · exact ⟨h, ht⟩
  generalize (if (readD st nm).2 = 7 then createD st nm else ((readD st nm).2, st)) = p at hp ⊢
  generalize Wal.goodOf (readD st nm).1.data.toList = gs
  have hq := firstD_tot _ (mendD_tot nm (readD st nm).1 gs.size) p.2 hp.1 hp.2
  generalize firstD (mendD nm (readD st nm).1 gs.size) p.2 = q at hq ⊢
  by_cases h1 : p.1 = 0
  · rw [if_pos h1]
    by_cases h2 : gs.size < (readD st nm).1.size
    · rw [if_pos h2]
      by_cases h3 : q.1 = 0
      · rw [if_pos h3]
        exact hq
      · rw [if_neg h3]
        exact hq
    · rw [if_neg h2]
      exact hp.2
  · rw [if_neg h1]
    exact hp.2
theorem stepAt_ok (dir : ByteArray) (n : Nat) (state : ByteArray) (k : Nat) (st : Dk) (o : Option Wal.Gs) (ok : st.Ok) (h : Tot6 st) : (stepAt dir n state k st o).2.1.Ok ∧ Tot6 (stepAt dir n state k st o).2.1 := by
  unfold stepAt
  split
  · exact ⟨removeIf_ok ok _, removeIf_tot ok h _⟩
  · exact ⟨create_ok ok _, create_tot ok h _⟩
  · exact ⟨append_ok ok _ _, append_tot ok h _ _⟩
  · exact ⟨sync_ok ok _, sync_tot ok h _⟩
  · exact ⟨rename_ok ok _ _, rename_tot ok h _ _⟩
  · exact ⟨openD_ok ok _, openD_tot ok h _⟩
  · exact ⟨removeIf_ok ok _, removeIf_tot ok h _⟩
  · exact ⟨removeIf_ok ok _, removeIf_tot ok h _⟩
/-! ### what holds from step to step -/
theorem LogBack.mv {c B : Nat} {nm : ByteArray} {S S' : List Nat} {w w' : World} {v : Value} : ∀ {o : Option Wal.Gs}, LogBack c B nm w v o → Mv S S' w w' → (∀ k, k ∈ S → k < B) → LogBack c B nm w' v o
  | none, h, _, _ => h
  | some _, ⟨g, T, h1, h2, h3⟩, hm, hS => ⟨g, T, h1, h2.aside hm (fun k hk e => by have := hS k e; have := h3 k hk; omega), h3⟩
theorem LogBack.mono {c B B' : Nat} {nm : ByteArray} {w : World} {v : Value} (hB : B' ≤ B) : ∀ {o : Option Wal.Gs}, LogBack c B nm w v o → LogBack c B' nm w v o
  | none, h => h
  | some _, ⟨g, T, h1, h2, h3⟩ => ⟨g, T, h1, h2, fun k hk => Nat.le_trans hB (h3 k hk)⟩
/-- Where a new round's things lie. -/
structure Lay8 (a c b p q x lb B : Nat) : Prop where
  a_ : a < B
  c_ : c < B
  b_ : b < B
  p_ : B ≤ p
  q_ : B ≤ q
  x_ : B ≤ x
  l_ : B ≤ lb
  ac : a ≠ c
  ab : a ≠ b
  lp : lb ≠ p
  lq : lb ≠ q
  lx : lb ≠ x
structure NxInv (a c b n : Nat) (dir : ByteArray) (p q x lb : Nat) (state : ByteArray) (w0 : World) (st : Dk) (o : Option Wal.Gs) (v : Value) (W : World) : Prop where
  ok : st.Ok
  tot : Tot6 st
  dk : DkAt c b st W
  hand : Hand p a c n dir W
  cq : W.cell? ⟨q, 0, none⟩ = some (.string state)
  cx : W.cell? ⟨x, 0, none⟩ = some (.int .i64 ((n + 1 : Nat) : Int))
  bl : Blk W lb 24 #[v]
  lbk : LogBack c w0.heap.size (lgB dir (n + 1)) W v o
  mv : Mv [c, b] [c, b] w0 W
section
variable {a c b n : Nat} {dir : ByteArray} {p q x lb : Nat} {state : ByteArray} {w0 W W' : World} {st st' : Dk} {o : Option Wal.Gs} {v : Value}
theorem NxInv.step (h : NxInv a c b n dir p q x lb state w0 st o v W) (L : Lay8 a c b p q x lb w0.heap.size) (ok : st'.Ok) (tot : Tot6 st') (hd : DkAt c b st' W') (hm : Mv [c, b] [c, b] W W') : NxInv a c b n dir p q x lb state w0 st' o v W' := by
  obtain ⟨l1, l2, l3, l4, l5, l6, l7, l8, l9, l10, l11, l12⟩ := L
  exact ⟨ok, tot, hd, h.hand.mv hm (by simp; omega) (by simp; omega), mv_apart hm (by simp; omega) h.cq, mv_apart hm (by simp; omega) h.cx, (hm.block lb h.bl.lt (by simp; omega)).trans h.bl, h.lbk.mv hm (fun k hk => by simp at hk; omega), h.mv.trans hm⟩
/-- The eight steps, as function values. -/
def steps8 (p q x lb : Nat) : List Fv :=
  [⟨52, #[.pointer (some ⟨p, 0, none⟩)]⟩, ⟨55, #[.pointer (some ⟨p, 0, none⟩)]⟩, ⟨56, #[.pointer (some ⟨p, 0, none⟩), .pointer (some ⟨q, 0, none⟩)]⟩, ⟨58, #[.pointer (some ⟨p, 0, none⟩)]⟩,
    ⟨60, #[.pointer (some ⟨p, 0, none⟩), .pointer (some ⟨x, 0, none⟩)]⟩, ⟨62, #[.pointer (some ⟨p, 0, none⟩), .pointer (some ⟨x, 0, none⟩), .pointer (some ⟨lb, 0, none⟩)]⟩, ⟨63, #[.pointer (some ⟨p, 0, none⟩)]⟩, ⟨64, #[.pointer (some ⟨p, 0, none⟩)]⟩]
def StepPost (a c b n : Nat) (dir : ByteArray) (p q x lb : Nat) (state : ByteArray) (w0 W : World) (r : Int × Dk × Option Wal.Gs) (e : Ending) (W' : World) : Prop :=
  ∃ v, e = .returned (.int .i64 r.1) ∧ NxInv a c b n dir p q x lb state w0 r.2.1 r.2.2 v W' ∧ Mv [lb, c, b] [lb, c, b] W W'
theorem step_call (L : Lay8 a c b p q x lb w0.heap.size) (hd : dir.size ≤ 20) (hn : n ≤ 9223372036854775806) (hs : state.size ≤ 150000) (k : Nat) (fv : Fv) (hk : (steps8 p q x lb)[k]? = some fv) (h : NxInv a c b n dir p q x lb state w0 st o v W) :
    Calls Tryz.prog fv.f fv.U W (StepPost a c b n dir p q x lb state w0 W (stepAt dir n state k st o)) := by
  have hst := stepAt_ok dir n state k st o h.ok h.tot
  have L' := L
  obtain ⟨l1, l2, l3, l4, l5, l6, l7, l8, l9, l10, l11, l12⟩ := L
  have np : p ≠ c ∧ p ≠ b := by omega
  have na : a ≠ c ∧ a ≠ b := by omega
  have nx : x ≠ c ∧ x ≠ b := by omega
  have nq : q ≠ c ∧ q ≠ b := by omega
  match k, hk, hst with
  | 0, hk, hst =>
    simp [steps8] at hk; subst hk
    refine (next1_any c b p a n dir hd hn st h.ok W h.dk h.hand np na).mono ?_
    rintro e W' ⟨rfl, h2, hm⟩
    exact ⟨v, rfl, h.step L' hst.1 hst.2 h2 hm, hm.wide (by simp)⟩
  | 1, hk, hst =>
    simp [steps8] at hk; subst hk
    refine (next2_any c b p a n dir hd hn st h.ok W h.dk h.hand np na).mono ?_
    rintro e W' ⟨rfl, h2, hm⟩
    exact ⟨v, rfl, h.step L' hst.1 hst.2 h2 hm, hm.wide (by simp)⟩
  | 2, hk, hst =>
    simp [steps8] at hk; subst hk
    refine (next3_any c b p a n dir hd hn st h.ok q state hs W h.cq nq h.dk h.hand np na).mono ?_
    rintro e W' ⟨rfl, h2, hm⟩
    exact ⟨v, rfl, h.step L' hst.1 hst.2 h2 hm, hm.wide (by simp)⟩
  | 3, hk, hst =>
    simp [steps8] at hk; subst hk
    refine (next4_any c b p a n dir hd hn st h.ok W h.dk h.hand np na).mono ?_
    rintro e W' ⟨rfl, h2, hm⟩
    exact ⟨v, rfl, h.step L' hst.1 hst.2 h2 hm, hm.wide (by simp)⟩
  | 4, hk, hst =>
    simp [steps8] at hk; subst hk
    refine (next5_any c b p a n dir hd hn st h.ok x (n + 1) (by omega) W h.cx nx h.dk h.hand np na).mono ?_
    rintro e W' ⟨rfl, h2, hm⟩
    exact ⟨v, rfl, h.step L' hst.1 hst.2 h2 hm, hm.wide (by simp)⟩
  | 5, hk, hst =>
    simp [steps8] at hk; subst hk
    refine (next6_any c b p a n dir hd st h.ok x (n + 1) lb (by omega) v (by have := h.tot; unfold Tot6 at this; omega) W h.cx nx h.dk h.hand np na h.bl ⟨by omega, by omega, l10, by omega, l12⟩).mono ?_
    rintro e W' ⟨v', rfl, h1, h2, h3, hm⟩
    refine ⟨v', rfl, ⟨hst.1, hst.2, h3, h.hand.mv hm (by simp; omega) (by simp; omega), mv_apart hm (by simp; omega) h.cq, mv_apart hm (by simp; omega) h.cx, h2, h1.mono h.mv.size, h.mv.and_new hm (fun k hk => by simp at hk; simp; omega)⟩, hm⟩
  | 6, hk, hst =>
    simp [steps8] at hk; subst hk
    refine (next7_any c b p a n dir hd hn st h.ok W h.dk h.hand np na).mono ?_
    rintro e W' ⟨rfl, h2, hm⟩
    exact ⟨v, rfl, h.step L' hst.1 hst.2 h2 hm, hm.wide (by simp)⟩
  | 7, hk, hst =>
    simp [steps8] at hk; subst hk
    refine (next8_any c b p a n dir hd hn st h.ok W h.dk h.hand np na).mono ?_
    rintro e W' ⟨rfl, h2, hm⟩
    exact ⟨v, rfl, h.step L' hst.1 hst.2 h2 hm, hm.wide (by simp)⟩
  | k + 8, hk, hst => simp [steps8] at hk
theorem step_enter (k : Nat) (fv : Fv) (hk : (steps8 p q x lb)[k]? = some fv) : ∀ W, (callFunc fv.f fv.U).run Tryz.prog W = .ok (.enter fv.f fv.U) W := by
  intro W
  match k, hk with
  | 0, hk => simp [steps8] at hk; subst hk; show _ = _; kernel_rfl
  | 1, hk => simp [steps8] at hk; subst hk; show _ = _; kernel_rfl
  | 2, hk => simp [steps8] at hk; subst hk; show _ = _; kernel_rfl
  | 3, hk => simp [steps8] at hk; subst hk; show _ = _; kernel_rfl
  | 4, hk => simp [steps8] at hk; subst hk; show _ = _; kernel_rfl
  | 5, hk => simp [steps8] at hk; subst hk; show _ = _; kernel_rfl
  | 6, hk => simp [steps8] at hk; subst hk; show _ = _; kernel_rfl
  | 7, hk => simp [steps8] at hk; subst hk; show _ = _; kernel_rfl
  | k + 8, hk => simp [steps8] at hk
end
/-- What next hands back. -/
def NextPost (c b n : Nat) (dir : ByteArray) (w : World) (r : Int × Dk × Option Wal.Gs) (e : Ending) (w' : World) : Prop :=
  ∃ v, e = .returned (.tuple #[v, .int .i64 r.1]) ∧ LogBack c w.heap.size (lgB dir (n + 1)) w' v r.2.2 ∧ DkAt c b r.2.1 w' ∧ Mv [c, b] [c, b] w w'
theorem runFrom_step (dir : ByteArray) (n : Nat) (state : ByteArray) {k : Nat} (hk : k < 8) (st : Dk) (o : Option Wal.Gs) : runFrom dir n state (8 - k) k st o = if (stepAt dir n state k st o).1 = 0 then runFrom dir n state (8 - (k + 1)) (k + 1) (stepAt dir n state k st o).2.1 (stepAt dir n state k st o).2.2 else ((stepAt dir n state k st o).1, (stepAt dir n state k st o).2.1, none) := by
  obtain ⟨j, hj⟩ : ∃ j, 8 - k = j + 1 := ⟨7 - k, by omega⟩
  rw [hj, show 8 - (k + 1) = j from by omega]
  rfl
set_option maxHeartbeats 4000000 in
theorem next_any (a c b n : Nat) (l : Value) (dir base state : ByteArray) (br : Bool) (hd : dir.size ≤ 20) (hn : n ≤ 9223372036854775806) (hs : state.size ≤ 150000) (st : Dk) (hok : st.Ok) (htot : Tot6 st) (w : World) (h : StBlk a l c dir n base br w) (hk : DkAt c b st w) (hac : a ≠ c) (hab : a ≠ b) :
    Calls Tryz.prog 32 #[.pointer (some ⟨a, 0, none⟩), .string state] w (NextPost c b n dir w (nextD dir n state st)) := by
  have e3 := h.cell3
  have hal := h.lt
  have hlc := hk.lt
  have hlb := hk.ltb
  obtain ⟨R, hR⟩ : ∃ R, nextD dir n state st = R := ⟨_, rfl⟩
  rw [hR]
  have HR := Lib.hid hR
  obtain ⟨B, hB⟩ : ∃ B, w.heap.size = B := ⟨_, rfl⟩
  obtain ⟨W1, hW1⟩ : ∃ W, w.alloc (.cells #[.pointer (some ⟨a, 0, none⟩)] 23) = W := ⟨_, rfl⟩
  have z1 : W1.heap.size = B + 1 := by rw [← hW1]; simp [hB]
  obtain ⟨W2, hW2⟩ : ∃ W, W1.alloc (.cells #[.string state] 9) = W := ⟨_, rfl⟩
  have z2 : W2.heap.size = B + 2 := by rw [← hW2]; simp; omega
  obtain ⟨W3, hW3⟩ : ∃ W, W2.alloc (.cells #[.int .i64 0] 3) = W := ⟨_, rfl⟩
  have z3 : W3.heap.size = B + 3 := by rw [← hW3]; simp; omega
  obtain ⟨W4, hW4⟩ : ∃ W, W3.setCell ⟨B + 2, 0, none⟩ (.int .i64 ((n : Int) + 1)) = W := ⟨_, rfl⟩
  have z4 : W4.heap.size = B + 3 := by rw [← hW4]; simp [z3]
  obtain ⟨W5, hW5⟩ : ∃ W, W4.alloc (.cells #[.pointer none] 24) = W := ⟨_, rfl⟩
  have z5 : W5.heap.size = B + 4 := by rw [← hW5]; simp; omega
  obtain ⟨sl, hsl⟩ : ∃ l : List Fv, l = steps8 B (B + 1) (B + 2) (B + 3) := ⟨_, rfl⟩
  have hll : sl.length = 8 := by rw [hsl]; rfl
  obtain ⟨W6, hW6⟩ : ∃ W, W5.alloc (.cells (fvs sl).toArray 64) = W := ⟨_, rfl⟩
  have z6 : W6.heap.size = B + 5 := by rw [← hW6]; simp; omega
  have k2 : ∀ {k i : Nat} {v : Value}, w.cell? ⟨k, i, none⟩ = some v → W2.cell? ⟨k, i, none⟩ = some v := fun h1 => by
    have h2 := cell_lti h1
    rw [← hW2, ← hW1]
    exact cell_old _ _ (cell_old _ _ h1 h2) (by simp; omega)
  have b3 : Blk W3 (B + 2) 3 #[.int .i64 0] := by rw [← hW3, ← z2]; exact Blk.new _ _ _
  have b4 : Blk W4 (B + 2) 3 #[.int .i64 ((n : Int) + 1)] := by rw [← hW4]; exact b3.set_ 0 _
  have k4 : ∀ {k i : Nat} {v : Value}, W2.cell? ⟨k, i, none⟩ = some v → k < B + 2 → W4.cell? ⟨k, i, none⟩ = some v := fun {k i v} h1 h2 => by
    rw [← hW4, World.cell?_setCell_other _ _ _ _ (fun e => by have := congrArg Addr.block e; simp at this; omega), ← hW3]
    exact cell_old _ _ h1 (by omega)
  have k6 : ∀ {k i : Nat} {v : Value}, W4.cell? ⟨k, i, none⟩ = some v → W6.cell? ⟨k, i, none⟩ = some v := fun h1 => by
    have h2 := cell_lti h1
    rw [← hW6, ← hW5]
    exact cell_old _ _ (cell_old _ _ h1 h2) (by simp; omega)
  have hm4 : Mv [c, b] [c, b] w W4 := by
    rw [← hW4]
    refine (show Mv [c, b] [c, b] w W3 from ?_).and_new (mv_celli (B + 2) 0 _ W3) (fun k hk => by simp at hk; right; omega)
    rw [← hW3, ← hW2, ← hW1]
    exact (((Mv.refl _ _).alloc _).alloc _).alloc _
  have hm6 : Mv [c, b] [c, b] w W6 := by rw [← hW6, ← hW5]; exact (hm4.alloc _).alloc _
  have hd3 : DkAt c b st W3 := by rw [← hW3, ← hW2, ← hW1]; exact ((hk.alloc _).alloc _).alloc _
  have hd4 : DkAt c b st W4 := by rw [← hW4]; exact hd3.mv (mv_celli (B + 2) 0 _ W3) (by simp; omega) (by simp; omega)
  have hd6 : DkAt c b st W6 := by rw [← hW6, ← hW5]; exact (hd4.alloc _).alloc _
  have p1 : W2.cell? ⟨B, 0, none⟩ = some (.pointer (some ⟨a, 0, none⟩)) := by rw [← hW2]; refine cell_old _ _ ?_ (by omega); rw [← hW1, ← hB]; exact cell_new1 _ _ _
  have p2 : W2.cell? ⟨B + 1, 0, none⟩ = some (.string state) := by rw [← hW2, ← z1]; exact cell_new1 _ _ _
  have b5 : Blk W6 (B + 3) 24 #[.pointer none] := by rw [← hW6]; refine Blk.alloc ?_ _; rw [← hW5, ← z4]; exact Blk.new _ _ _
  have inv : NxInv a c b n dir B (B + 1) (B + 2) (B + 3) state w st none (.pointer none) W6 := by
    refine ⟨hok, htot, hd6, ⟨k6 (k4 p1 (by omega)), k6 (k4 (k2 h.cell1) (by omega)), k6 (k4 (k2 h.cell2) (by omega)), k6 (k4 (k2 h.cell3) (by omega))⟩, k6 (k4 p2 (by omega)), ?_, b5, rfl, hm6⟩
    exact k6 (b4.cell 0)
  have L8 : Lay8 a c b B (B + 1) (B + 2) (B + 3) w.heap.size := ⟨hal, hlc, hlb, by omega, by omega, by omega, by omega, hac, hab, by omega, by omega, by omega⟩
  have hrd : Reads W6 (B + 5) 1 (some ⟨B + 4, 0, none⟩) 8 (fvs sl) := by
    rw [← hW6]
    exact reads_newV W5 (fvs sl) _ _ rfl (by simp [fvs, hll]) z5.symm (by omega)
  have Q := fun k fv (hk : (steps8 B (B + 1) (B + 2) (B + 3))[k]? = some fv) st' o v W (hI : NxInv a c b n dir B (B + 1) (B + 2) (B + 3) state w st' o v W) => Lib.hid (step_call L8 hd hn hs k fv hk hI)
  have QE := fun k fv (hk : (steps8 B (B + 1) (B + 2) (B + 3))[k]? = some fv) => step_enter k fv hk
  have INV := Lib.hid inv
  have HRD := Lib.hid hrd
  have HLL := Lib.hid hll
  have HSL := Lib.hid hsl
  have HW6 := Lib.hid hW6
  have hmf := makes
  have e3w := k2 e3
  have f3 := b3.frozen 0
  have c3 : W3.cell? ⟨B + 2, 0, none⟩ = some (.int .i64 0) := b3.cell 0
  have HBB := Lib.hid hB
  have HZ6 := Lib.hid z6
  clear hR hW6 hrd hll inv hd3 hd4 hd6 hm4 hm6 b3 b4 b5 k2 k4 k6 p2 h hk hok htot e3 hsl L8 z6
  go_enter Tryz.func32, Tryz.ntmps32
  go_wp2
  go_loopw [26] (fun i wr => ∃ (k : Nat), k ≤ 8 ∧ i = .int .i64 k ∧ Hid (∃ st' o v, NxInv a c b n dir B (B + 1) (B + 2) (B + 3) state w st' o v wr ∧ runFrom dir n state (8 - k) k st' o = R) ∧ Hid (Mv [B + 3, c, b] [B + 3, c, b] W6 wr)) (fun i _ => 8 - (intOf i).toNat)
  case atStart =>
    have e6 : W5.alloc (.cells (fvs (steps8 B (B + 1) (B + 2) (B + 3))).toArray 64) = W6 := by rw [← HW6.out, HSL.out]
    refine ⟨0, by omega, rfl, ?_⟩
    show Hid (∃ st' o v, NxInv a c b n dir B (B + 1) (B + 2) (B + 3) state w st' o v (W5.alloc (.cells (fvs (steps8 B (B + 1) (B + 2) (B + 3))).toArray 64)) ∧ _) ∧ Hid (Mv _ _ W6 (W5.alloc (.cells (fvs (steps8 B (B + 1) (B + 2) (B + 3))).toArray 64)))
    rw [e6]
    exact ⟨⟨st, none, .pointer none, INV.out, HR.out⟩, Mv.refl _ _⟩
  case round =>
    obtain ⟨k, hk, rfl, HI, HM⟩ := hrel
    obtain ⟨st', o, v, hinv, hrun⟩ := HI.out
    have HINV := Lib.hid hinv
    have HRUN := Lib.hid hrun
    clear hinv hrun HI
    by_cases hlt : k < 8
    · obtain ⟨ad, u, rfl', hab, hu, hcell⟩ := (HRD.out.mv HM.out (by have := HZ6.out; omega) (fun _ ad e => by injection e with e; subst e; simp; omega)).at_ hlt
      injection rfl' with rfl'
      subst rfl'
      have hcell2 : wr.cell? ⟨B + 4, k, none⟩ = some u := by
        unfold Addr.add at hcell
        split at hcell
        · rename_i h1; subst h1; exact hcell
        · rw [Nat.zero_add] at hcell; exact hcell
      obtain ⟨fv, hfv, rfl⟩ : ∃ fv, sl[k]? = some fv ∧ Value.func (.func fv.f) #[] fv.U = u := by simpa [fvs] using hu
      rw [HSL.out] at hfv
      have q := Q k fv hfv st' o v wr HINV.out
      have hen := QE k fv hfv
      have hstep := runFrom_step dir n state hlt st' o
      rw [HRUN.out] at hstep
      obtain ⟨ff, fU⟩ := fv
      obtain ⟨r, hr⟩ : ∃ r, stepAt dir n state k st' o = r := ⟨_, rfl⟩
      rw [hr] at q hstep
      obtain ⟨r1, r2, r3⟩ := r
      simp only at hstep
      have hcz : (k : Int) < 8 := by omega
      have HST := Lib.hid hstep
      clear hr hstep hu hfv hcell hab Q QE
      by_cases h0 : r1 = 0
      · have hb0 : (r1 != 0) = false := by rw [h0]; rfl
        have HR2 : Hid (runFrom dir n state (8 - (k + 1)) (k + 1) r2 r3 = R) := by
          show _ = _
          have := HST.out
          rw [if_pos h0] at this
          exact this.symm
        clear h0 HST
        go_wp2_with fail
        refine q.out.mono ?_
        rintro e w2 ⟨v2, rfl, hi2, hm2⟩
        have HI2 : Hid (∃ st' o v, NxInv a c b n dir B (B + 1) (B + 2) (B + 3) state w st' o v w2 ∧ runFrom dir n state (8 - (k + 1)) (k + 1) st' o = R) := ⟨_, _, _, hi2, HR2.out⟩
        have HM2 := Lib.hid (HM.out.trans hm2)
        clear q hi2 hm2 hen hcell2
        go_wp2
        go_roundw
        case rel => exact ⟨k + 1, hlt, by go_num, HI2.out, HM2.out⟩
        case measure => simp [intOf]; omega
      · have hb0 : (r1 != 0) = true := by simpa using h0
        have hst := HST.out
        rw [if_neg h0] at hst
        subst hst
        clear h0 HST
        go_wp2_with fail
        refine q.out.mono ?_
        rintro e w2 ⟨v2, rfl, hi2, hm2⟩
        have HK2 := Lib.hid hi2.dk
        have HM2 := Lib.hid hi2.mv
        clear q hi2 hm2 hen hcell2
        go_wp2
        go_ret2
        exact ⟨_, rfl, rfl, HK2.out, HM2.out⟩
    · obtain rfl : k = 8 := by omega
      have hrun := HRUN.out
      change (0, st', o) = R at hrun
      subst hrun
      have hbl := HINV.out.bl.cell 0
      have hbl2 : wr.cell? ⟨B + 3, 0, none⟩ = some v := hbl
      have HLB := Lib.hid HINV.out.lbk
      have HK2 := Lib.hid HINV.out.dk
      have HM2 := Lib.hid HINV.out.mv
      clear hbl
      go_wp2
      go_ret2
      exact ⟨_, rfl, HLB.out, HK2.out, HM2.out⟩
end Go.Proofs.YtjhinifmdjlblaaGreat
