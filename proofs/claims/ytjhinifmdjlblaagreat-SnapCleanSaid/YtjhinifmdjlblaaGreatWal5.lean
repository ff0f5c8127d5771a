/-
  Package wal: the steps of mend and of Commit, each as a contract.
  Conditions: disks and logs that the call has made; the variables that the steps have in hand lie in blocks of their own.
-/
import Derived.Test.YtjhinifmdjlblaaGreatWal4
namespace Go.Proofs.YtjhinifmdjlblaaGreat
open Go.RowKit Go.Maps
set_option maxRecDepth 100000


set_option maxHeartbeats 1000000 in
theorem mend1_any (c b p g q : Nat) (st : Dk) (hok : st.Ok) (s : ByteArray) (hs : s.size ≤ 9223372036854775807) (w : World) (h : DkAt c b st w) (el : w.cell? ⟨p, 0, none⟩ = some (.pointer (some ⟨g, 0, none⟩))) (ed : w.cell? ⟨g, 0, none⟩ = some (.pointer (some ⟨c, 0, none⟩))) (eq : w.cell? ⟨q, 0, none⟩ = some (.string s)) (np : p ≠ c ∧ p ≠ b) (ng : g ≠ c ∧ g ≠ b) (nq : q ≠ c ∧ q ≠ b) :
    Calls Tryz.prog 88 #[.pointer (some ⟨p, 0, none⟩), .pointer (some ⟨q, 0, none⟩)] w fun e w' => e = .returned (.int .i64 (removeIf s st).1) ∧ DkAt c b (removeIf s st).2 w' ∧ Mv [c, b] [c, b] w w' := by
  have qc := wremove_any c b st hok s hs w.drew h
  obtain ⟨r, hr⟩ : ∃ r, removeIf s st = r := ⟨_, rfl⟩
  rw [hr] at qc ⊢
  clear hr h hok
  go_enter Tryz.func88, Tryz.ntmps88
  go_wp2
  go_region_held3 (fun W => W.cell? ⟨p, 0, none⟩ = some (.pointer (some ⟨g, 0, none⟩)) ∧ W.cell? ⟨g, 0, none⟩ = some (.pointer (some ⟨c, 0, none⟩)) ∧ W.cell? ⟨q, 0, none⟩ = some (.string s)) (first | exact ⟨el, ed, eq⟩ | exact ⟨mv_keep hm2 np el, mv_keep hm2 ng ed, mv_keep hm2 nq eq⟩)
    (first | (go_at_call 53; (with_reducible refine qc.mono ?_); rintro e w2 ⟨rfl, h2, hm2⟩))
  have H2 := Lib.hid h2
  have HM2 := Lib.hid (((Mv.refl [c, b] w).drewN 1).trans hm2)
  clear h2 hm2 qc
  go_wp2
  go_ret
  exact ⟨rfl, H2.out, HM2.out⟩

set_option maxHeartbeats 1000000 in
theorem mend2_any (c b p g q : Nat) (st : Dk) (hok : st.Ok) (s : ByteArray) (hs : s.size ≤ 9223372036854775807) (w : World) (h : DkAt c b st w) (el : w.cell? ⟨p, 0, none⟩ = some (.pointer (some ⟨g, 0, none⟩))) (ed : w.cell? ⟨g, 0, none⟩ = some (.pointer (some ⟨c, 0, none⟩))) (eq : w.cell? ⟨q, 0, none⟩ = some (.string s)) (np : p ≠ c ∧ p ≠ b) (ng : g ≠ c ∧ g ≠ b) (nq : q ≠ c ∧ q ≠ b) :
    Calls Tryz.prog 89 #[.pointer (some ⟨p, 0, none⟩), .pointer (some ⟨q, 0, none⟩)] w fun e w' => e = .returned (.int .i64 (createD st s).1) ∧ DkAt c b (createD st s).2 w' ∧ Mv [c, b] [c, b] w w' := by
  have qc := create_any c b st hok s hs w.drew h
  obtain ⟨r, hr⟩ : ∃ r, createD st s = r := ⟨_, rfl⟩
  rw [hr] at qc ⊢
  clear hr h hok
  go_enter Tryz.func89, Tryz.ntmps89
  go_wp2
  go_region_held3 (fun W => W.cell? ⟨p, 0, none⟩ = some (.pointer (some ⟨g, 0, none⟩)) ∧ W.cell? ⟨g, 0, none⟩ = some (.pointer (some ⟨c, 0, none⟩)) ∧ W.cell? ⟨q, 0, none⟩ = some (.string s)) (first | exact ⟨el, ed, eq⟩ | exact ⟨mv_keep hm2 np el, mv_keep hm2 ng ed, mv_keep hm2 nq eq⟩)
    (first | (go_at_call 47; (with_reducible refine qc.mono ?_); rintro e w2 ⟨rfl, h2, hm2⟩))
  have H2 := Lib.hid h2
  have HM2 := Lib.hid (((Mv.refl [c, b] w).drewN 1).trans hm2)
  clear h2 hm2 qc
  go_wp2
  go_ret
  exact ⟨rfl, H2.out, HM2.out⟩

set_option maxHeartbeats 1000000 in
theorem mend3_any (c b p g q x : Nat) (st : Dk) (hok : st.Ok) (s : ByteArray) (hs : s.size ≤ 9223372036854775807) (y : ByteArray) (hy : y.size ≤ 1000000000) (sz : Nat) (hsz : sz ≤ y.size) (w : World) (h : DkAt c b st w) (el : w.cell? ⟨p, 0, none⟩ = some (.pointer (some ⟨g, 0, none⟩))) (ed : w.cell? ⟨g, 0, none⟩ = some (.pointer (some ⟨c, 0, none⟩))) (eq : w.cell? ⟨q, 0, none⟩ = some (.string s)) (ex : w.cell? ⟨x, 0, none⟩ = some (.string y)) (ez : w.cell? ⟨g, 4, none⟩ = some (.int .i64 sz)) (np : p ≠ c ∧ p ≠ b) (ng : g ≠ c ∧ g ≠ b) (nq : q ≠ c ∧ q ≠ b) (nx : x ≠ c ∧ x ≠ b) :
    Calls Tryz.prog 90 #[.pointer (some ⟨p, 0, none⟩), .pointer (some ⟨q, 0, none⟩), .pointer (some ⟨x, 0, none⟩)] w fun e w' => e = .returned (.int .i64 (appendD st s (y.extract 0 sz)).1) ∧ DkAt c b (appendD st s (y.extract 0 sz)).2 w' ∧ Mv [c, b] [c, b] w w' := by
  have qc := append_any c b st hok s (y.extract 0 sz) hs (by rw [Sm.extract_size _ _ _ hsz]; omega) w.drew h
  obtain ⟨r, hr⟩ : ∃ r, appendD st s (y.extract 0 sz) = r := ⟨_, rfl⟩
  rw [hr] at qc ⊢
  clear hr h hok
  have b1 : (0 : Int) ≤ (sz : Int) := by omega
  have b2 : (sz : Int) ≤ (y.size : Int) := by omega
  go_enter Tryz.func90, Tryz.ntmps90
  go_wp2
  go_region_held3 (fun W => W.cell? ⟨p, 0, none⟩ = some (.pointer (some ⟨g, 0, none⟩)) ∧ W.cell? ⟨g, 0, none⟩ = some (.pointer (some ⟨c, 0, none⟩)) ∧ W.cell? ⟨q, 0, none⟩ = some (.string s) ∧ W.cell? ⟨x, 0, none⟩ = some (.string y) ∧ W.cell? ⟨g, 4, none⟩ = some (.int .i64 sz)) (first | exact ⟨el, ed, eq, ex, ez⟩ | exact ⟨mv_keep hm2 np el, mv_keep hm2 ng ed, mv_keep hm2 nq eq, mv_keep hm2 nx ex, mv_keep hm2 ng ez⟩)
    (first | (go_at_call 57; (with_reducible refine qc.mono ?_); rintro e w2 ⟨rfl, h2, hm2⟩))
  have H2 := Lib.hid h2
  have HM2 := Lib.hid (((Mv.refl [c, b] w).drewN 1).trans hm2)
  clear h2 hm2 qc
  go_wp2
  go_ret
  exact ⟨rfl, H2.out, HM2.out⟩

set_option maxHeartbeats 1000000 in
theorem mend4_any (c b p g q : Nat) (st : Dk) (hok : st.Ok) (s : ByteArray) (hs : s.size ≤ 9223372036854775807) (w : World) (h : DkAt c b st w) (el : w.cell? ⟨p, 0, none⟩ = some (.pointer (some ⟨g, 0, none⟩))) (ed : w.cell? ⟨g, 0, none⟩ = some (.pointer (some ⟨c, 0, none⟩))) (eq : w.cell? ⟨q, 0, none⟩ = some (.string s)) (np : p ≠ c ∧ p ≠ b) (ng : g ≠ c ∧ g ≠ b) (nq : q ≠ c ∧ q ≠ b) :
    Calls Tryz.prog 91 #[.pointer (some ⟨p, 0, none⟩), .pointer (some ⟨q, 0, none⟩)] w fun e w' => e = .returned (.int .i64 (syncD st s).1) ∧ DkAt c b (syncD st s).2 w' ∧ Mv [c, b] [c, b] w w' := by
  have qc := sync_any c b st hok s hs w.drew h
  obtain ⟨r, hr⟩ : ∃ r, syncD st s = r := ⟨_, rfl⟩
  rw [hr] at qc ⊢
  clear hr h hok
  go_enter Tryz.func91, Tryz.ntmps91
  go_wp2
  go_region_held3 (fun W => W.cell? ⟨p, 0, none⟩ = some (.pointer (some ⟨g, 0, none⟩)) ∧ W.cell? ⟨g, 0, none⟩ = some (.pointer (some ⟨c, 0, none⟩)) ∧ W.cell? ⟨q, 0, none⟩ = some (.string s)) (first | exact ⟨el, ed, eq⟩ | exact ⟨mv_keep hm2 np el, mv_keep hm2 ng ed, mv_keep hm2 nq eq⟩)
    (first | (go_at_call 59; (with_reducible refine qc.mono ?_); rintro e w2 ⟨rfl, h2, hm2⟩))
  have H2 := Lib.hid h2
  have HM2 := Lib.hid (((Mv.refl [c, b] w).drewN 1).trans hm2)
  clear h2 hm2 qc
  go_wp2
  go_ret
  exact ⟨rfl, H2.out, HM2.out⟩

set_option maxHeartbeats 1000000 in
theorem mend5_any (c b p g q : Nat) (st : Dk) (hok : st.Ok) (s : ByteArray) (hs : s.size ≤ 9223372036854775807) (nm : ByteArray) (w : World) (h : DkAt c b st w) (el : w.cell? ⟨p, 0, none⟩ = some (.pointer (some ⟨g, 0, none⟩))) (ed : w.cell? ⟨g, 0, none⟩ = some (.pointer (some ⟨c, 0, none⟩))) (eq : w.cell? ⟨q, 0, none⟩ = some (.string s)) (en : w.cell? ⟨g, 1, none⟩ = some (.string nm)) (np : p ≠ c ∧ p ≠ b) (ng : g ≠ c ∧ g ≠ b) (nq : q ≠ c ∧ q ≠ b) :
    Calls Tryz.prog 92 #[.pointer (some ⟨p, 0, none⟩), .pointer (some ⟨q, 0, none⟩)] w fun e w' => e = .returned (.int .i64 (renameD st s nm).1) ∧ DkAt c b (renameD st s nm).2 w' ∧ Mv [c, b] [c, b] w w' := by
  have qc := rename_any c b st hok s nm hs w.drew h
  obtain ⟨r, hr⟩ : ∃ r, renameD st s nm = r := ⟨_, rfl⟩
  rw [hr] at qc ⊢
  clear hr h hok
  go_enter Tryz.func92, Tryz.ntmps92
  go_wp2
  go_region_held3 (fun W => W.cell? ⟨p, 0, none⟩ = some (.pointer (some ⟨g, 0, none⟩)) ∧ W.cell? ⟨g, 0, none⟩ = some (.pointer (some ⟨c, 0, none⟩)) ∧ W.cell? ⟨q, 0, none⟩ = some (.string s) ∧ W.cell? ⟨g, 1, none⟩ = some (.string nm)) (first | exact ⟨el, ed, eq, en⟩ | exact ⟨mv_keep hm2 np el, mv_keep hm2 ng ed, mv_keep hm2 nq eq, mv_keep hm2 ng en⟩)
    (first | (go_at_call 61; (with_reducible refine qc.mono ?_); rintro e w2 ⟨rfl, h2, hm2⟩))
  have H2 := Lib.hid h2
  have HM2 := Lib.hid (((Mv.refl [c, b] w).drewN 1).trans hm2)
  clear h2 hm2 qc
  go_wp2
  go_ret
  exact ⟨rfl, H2.out, HM2.out⟩

set_option maxHeartbeats 1000000 in
theorem commit2_any (c b p g x : Nat) (st : Dk) (hok : st.Ok) (nm : ByteArray) (hn : nm.size ≤ 9223372036854775807) (y : ByteArray) (hy : y.size ≤ 1000000000) (w : World) (h : DkAt c b st w) (el : w.cell? ⟨p, 0, none⟩ = some (.pointer (some ⟨g, 0, none⟩))) (ed : w.cell? ⟨g, 0, none⟩ = some (.pointer (some ⟨c, 0, none⟩))) (en : w.cell? ⟨g, 1, none⟩ = some (.string nm)) (ex : w.cell? ⟨x, 0, none⟩ = some (.string y)) (np : p ≠ c ∧ p ≠ b) (ng : g ≠ c ∧ g ≠ b) (nx : x ≠ c ∧ x ≠ b) :
    Calls Tryz.prog 69 #[.pointer (some ⟨p, 0, none⟩), .pointer (some ⟨x, 0, none⟩)] w fun e w' => e = .returned (.int .i64 (appendD st nm y).1) ∧ DkAt c b (appendD st nm y).2 w' ∧ Mv [c, b] [c, b] w w' := by
  have qc := append_any c b st hok nm y hn (by omega) w.drew h
  obtain ⟨r, hr⟩ : ∃ r, appendD st nm y = r := ⟨_, rfl⟩
  rw [hr] at qc ⊢
  clear hr h hok
  go_enter Tryz.func69, Tryz.ntmps69
  go_wp2
  go_region_held3 (fun W => W.cell? ⟨p, 0, none⟩ = some (.pointer (some ⟨g, 0, none⟩)) ∧ W.cell? ⟨g, 0, none⟩ = some (.pointer (some ⟨c, 0, none⟩)) ∧ W.cell? ⟨g, 1, none⟩ = some (.string nm) ∧ W.cell? ⟨x, 0, none⟩ = some (.string y)) (first | exact ⟨el, ed, en, ex⟩ | exact ⟨mv_keep hm2 np el, mv_keep hm2 ng ed, mv_keep hm2 ng en, mv_keep hm2 nx ex⟩)
    (first | (go_at_call 57; (with_reducible refine qc.mono ?_); rintro e w2 ⟨rfl, h2, hm2⟩))
  have H2 := Lib.hid h2
  have HM2 := Lib.hid (((Mv.refl [c, b] w).drewN 1).trans hm2)
  clear h2 hm2 qc
  go_wp2
  go_ret
  exact ⟨rfl, H2.out, HM2.out⟩

set_option maxHeartbeats 1000000 in
theorem commit3_any (c b p g : Nat) (st : Dk) (hok : st.Ok) (nm : ByteArray) (hn : nm.size ≤ 9223372036854775807) (w : World) (h : DkAt c b st w) (el : w.cell? ⟨p, 0, none⟩ = some (.pointer (some ⟨g, 0, none⟩))) (ed : w.cell? ⟨g, 0, none⟩ = some (.pointer (some ⟨c, 0, none⟩))) (en : w.cell? ⟨g, 1, none⟩ = some (.string nm)) (np : p ≠ c ∧ p ≠ b) (ng : g ≠ c ∧ g ≠ b) :
    Calls Tryz.prog 70 #[.pointer (some ⟨p, 0, none⟩)] w fun e w' => e = .returned (.int .i64 (syncD st nm).1) ∧ DkAt c b (syncD st nm).2 w' ∧ Mv [c, b] [c, b] w w' := by
  have qc := sync_any c b st hok nm hn w.drew h
  obtain ⟨r, hr⟩ : ∃ r, syncD st nm = r := ⟨_, rfl⟩
  rw [hr] at qc ⊢
  clear hr h hok
  go_enter Tryz.func70, Tryz.ntmps70
  go_wp2
  go_region_held3 (fun W => W.cell? ⟨p, 0, none⟩ = some (.pointer (some ⟨g, 0, none⟩)) ∧ W.cell? ⟨g, 0, none⟩ = some (.pointer (some ⟨c, 0, none⟩)) ∧ W.cell? ⟨g, 1, none⟩ = some (.string nm)) (first | exact ⟨el, ed, en⟩ | exact ⟨mv_keep hm2 np el, mv_keep hm2 ng ed, mv_keep hm2 ng en⟩)
    (first | (go_at_call 59; (with_reducible refine qc.mono ?_); rintro e w2 ⟨rfl, h2, hm2⟩))
  have H2 := Lib.hid h2
  have HM2 := Lib.hid (((Mv.refl [c, b] w).drewN 1).trans hm2)
  clear h2 hm2 qc
  go_wp2
  go_ret
  exact ⟨rfl, H2.out, HM2.out⟩

end Go.Proofs.YtjhinifmdjlblaaGreat
