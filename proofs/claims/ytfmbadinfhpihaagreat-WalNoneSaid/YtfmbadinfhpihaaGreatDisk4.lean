/-
  Package disk as contracts: what the closures of Create, Sync, Remove and Rename do.
  Conditions: disks that the call has made.
-/
import Derived.Test.YtfmbadinfhpihaaGreatDisk3
namespace Go.Proofs.YtfmbadinfhpihaaGreat
open Go.RowKit Go.Maps
set_option maxRecDepth 100000

theorem ne_map {w : World} {b n p : Nat} {D : DataW Unit} {v : Value} (h : w.ownsMap Tryz.prog 9 fileE b n D) (hc : w.cell? ⟨p, 0, none⟩ = some v) : p ≠ b := by
  rintro rfl
  obtain ⟨es, clock, h1, _⟩ := h
  simp [World.cell?, h1] at hc
def Dk.with (st : Dk) (fs : DataW Unit) : Dk := ⟨st.on, st.fused, st.left, st.ops, fs⟩
theorem DkAt.turned {c b n : Nat} {st : Dk} {w w' : World} {fs : DataW Unit} (h : DkAt c b st w) (hc : w'.heap[c]? = w.heap[c]?) (hown : w'.ownsMap Tryz.prog 9 fileE b n fs) : DkAt c b (st.with fs) w' :=
  ⟨hc.trans h.1, own_tight hown, h.2.2⟩
theorem Mv.of_grown {b : Nat} {w w' : World} (h : w.grownBy w' (some b)) : Mv [b] [b] w w' := (Mv.refl [b] w).grown h (fun k e => by injection e with e; simp [e]) (fun k e => .inl e)

set_option maxHeartbeats 1000000 in
theorem create2_any (c b p q : Nat) (st : Dk) (hok : st.Ok) (s : ByteArray) (hs : s.size ≤ 1000000) (w : World) (h : DkAt c b st w) (hc : Caught p q c s w) :
    Calls Tryz.prog 61 #[.pointer (some ⟨p, 0, none⟩), .pointer (some ⟨q, 0, none⟩)] w fun e w' => e = .returned (.tuple #[]) ∧ DkAt c b (st.with (putF st.fs s ⟨#[]⟩ 0)) w' ∧ Mv [b] [b] w w' := by
  obtain ⟨cp, cq⟩ := hc
  have hplt := cell_lt cp
  have hqlt := cell_lt cq
  have hpb := ne_map h.2.1 cp
  have hqb := ne_map h.2.1 cq
  have hcb := h.2.2
  have hclt := h.lt
  have hblt := h.ltb
  have c4 := h.cell4
  have hfew := hok.few
  have HOwn := Lib.hid h.2.1
  have H := Lib.hid h
  clear h
  go_enter Tryz.func61, Tryz.ntmps61
  go_region_held3 (fun W => W.cell? ⟨p, 0, none⟩ = some (.pointer (some ⟨c, 0, none⟩)) ∧ W.cell? ⟨q, 0, none⟩ = some (.string s) ∧ W.cell? ⟨c, 4, none⟩ = some (.map (some b)))
    (first
      | exact ⟨cp, cq, c4⟩
      | exact ⟨(hb2.cell (show (⟨p, 0, none⟩ : Addr).block < _ from hplt)).trans cp, (hb2.cell (show (⟨q, 0, none⟩ : Addr).block < _ from hqlt)).trans cq, (hb2.cell (show (⟨c, 4, none⟩ : Addr).block < _ from hclt)).trans c4⟩
      | exact ⟨(World.cell?_of_block (a := ⟨p, 0, none⟩) (hgrow3.block p (Nat.lt_of_lt_of_le hplt hb2.size) (fun e => hpb (by injection e)))).trans ((hb2.cell (show (⟨p, 0, none⟩ : Addr).block < _ from hplt)).trans cp), (World.cell?_of_block (a := ⟨q, 0, none⟩) (hgrow3.block q (Nat.lt_of_lt_of_le hqlt hb2.size) (fun e => hqb (by injection e)))).trans ((hb2.cell (show (⟨q, 0, none⟩ : Addr).block < _ from hqlt)).trans cq), (World.cell?_of_block (a := ⟨c, 4, none⟩) (hgrow3.block c (Nat.lt_of_lt_of_le hclt hb2.size) (fun e => hcb (by injection e)))).trans ((hb2.cell (show (⟨c, 4, none⟩ : Addr).block < _ from hclt)).trans c4)⟩)
    (first | (go_at_call 39; refine (clone_any s _ (by omega)).mono ?_; rintro e w2 ⟨rfl, hb2⟩; obtain ⟨w3, hrun, hown3, hgrow3⟩ := (own_keep HOwn.out (hb2.block b hblt)).update keyT Tryz.underlying45 (by unfold maxLen; omega) (key_str (s := s) (by omega)) (fileE_mk ⟨#[]⟩ 0)))
  go_end0
  refine ⟨rfl, H.out.turned ((hgrow3.block c (Nat.lt_of_lt_of_le hclt hb2.size) (fun e => hcb (by injection e))).trans (hb2.block c hclt)) hown3, ?_⟩
  exact (Mv.of_new (S := [b]) (S' := [b]) ((Below.refl w.heap.size w).drew.trans hb2) (fun k hk => .inl hk)).trans (Mv.of_grown hgrow3)
theorem lacks1_any (c b p q : Nat) (st : Dk) (hok : st.Ok) (s : ByteArray) (hs : s.size ≤ 9223372036854775807) (w : World) (h : DkAt c b st w) (hc : Caught p q c s w) :
    Calls Tryz.prog 159 #[.pointer (some ⟨p, 0, none⟩), .pointer (some ⟨q, 0, none⟩)] w fun e w' => e = .returned (.int .i64 (lacksD st s)) ∧ Below w.heap.size w w' := by
  obtain ⟨cp, cq⟩ := hc
  have HL := Lib.hid (lacks_any c b st hok.good s hs w h)
  clear h
  go_enter Tryz.func159, Tryz.ntmps159
  go_wp2_with fail
  refine HL.out.mono ?_
  rintro e w1 ⟨rfl, hb⟩
  have HB := Lib.hid hb
  clear hb
  go_wp2
  go_ret
  exact ⟨rfl, HB.out⟩
theorem lacks2_any (c b p q : Nat) (st : Dk) (hok : st.Ok) (s : ByteArray) (hs : s.size ≤ 9223372036854775807) (w : World) (h : DkAt c b st w) (hc : Caught p q c s w) :
    Calls Tryz.prog 234 #[.pointer (some ⟨p, 0, none⟩), .pointer (some ⟨q, 0, none⟩)] w fun e w' => e = .returned (.int .i64 (lacksD st s)) ∧ Below w.heap.size w w' := by
  obtain ⟨cp, cq⟩ := hc
  have HL := Lib.hid (lacks_any c b st hok.good s hs w h)
  clear h
  go_enter Tryz.func234, Tryz.ntmps234
  go_wp2_with fail
  refine HL.out.mono ?_
  rintro e w1 ⟨rfl, hb⟩
  have HB := Lib.hid hb
  clear hb
  go_wp2
  go_ret
  exact ⟨rfl, HB.out⟩

set_option maxHeartbeats 1000000 in
theorem remove2_any (c b p q : Nat) (st : Dk) (s : ByteArray) (hs : s.size ≤ 9223372036854775807) (w : World) (h : DkAt c b st w) (hc : Caught p q c s w) :
    Calls Tryz.prog 235 #[.pointer (some ⟨p, 0, none⟩), .pointer (some ⟨q, 0, none⟩)] w fun e w' => e = .returned (.tuple #[]) ∧ DkAt c b (st.with (delF st.fs s)) w' ∧ Mv [b] [b] w w' := by
  obtain ⟨cp, cq⟩ := hc
  have hplt := cell_lt cp
  have hqlt := cell_lt cq
  have hpb := ne_map h.2.1 cp
  have hqb := ne_map h.2.1 cq
  have hcb := h.2.2
  have hclt := h.lt
  have hblt := h.ltb
  have c4 := h.cell4
  have hrun0 := fun ty => (show (w.drew).ownsMap Tryz.prog 9 fileE b (Maps.size st.fs) st.fs from h.2.1).drop keyT Tryz.underlying45 (key_str hs) ty
  have H := Lib.hid h
  clear h
  obtain ⟨w3, hrun3, hown3, hturn3⟩ := hrun0 0
  clear hrun0
  have hgrow3 := hturn3.grown
  go_enter Tryz.func235, Tryz.ntmps235
  go_region_held3 (fun W => W.cell? ⟨p, 0, none⟩ = some (.pointer (some ⟨c, 0, none⟩)) ∧ W.cell? ⟨q, 0, none⟩ = some (.string s) ∧ W.cell? ⟨c, 4, none⟩ = some (.map (some b)))
    (first
      | exact ⟨cp, cq, c4⟩
      | exact ⟨(World.cell?_of_block (a := ⟨p, 0, none⟩) (hgrow3.block p hplt (fun e => hpb (by injection e)))).trans cp, (World.cell?_of_block (a := ⟨q, 0, none⟩) (hgrow3.block q hqlt (fun e => hqb (by injection e)))).trans cq, (World.cell?_of_block (a := ⟨c, 4, none⟩) (hgrow3.block c hclt (fun e => hcb (by injection e)))).trans c4⟩)
    (fail)
  go_end0
  exact ⟨rfl, H.out.turned (hgrow3.block c hclt (fun e => hcb (by injection e))) hown3, ((Mv.refl [b] w).drewN 1).trans (Mv.of_grown hgrow3)⟩
end Go.Proofs.YtfmbadinfhpihaaGreat
