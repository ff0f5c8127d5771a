/-
  The book with lists of texts: still as they were; marked.
  Conditions: lists that nobody else holds.
-/
import Derived.Test.YtlniafpbkhkkaaaGreatBk2
namespace Go.Proofs.YtlniafpbkhkkaaaGreat
open Go.RowKit
attribute [local go_sem ↓] Go.wp_at_zero Go.wp_at_succ
set_option maxRecDepth 100000

/-- The k-th list of a row of lists. -/
theorem row_at {w : World} {B n k : Nat} {tv : Value} {f : TRow → Value} {L : List TRow} (h : w.ownsRow B 22 1 tv n (L.map f)) (hn : L.length = n) (hk : k < n) : ∃ q c r, tv = .slice (some ⟨q, 0, none⟩) n c ∧ L[k]? = some r ∧ w.cell? ⟨q, k, none⟩ = some (f r) ∧ n ≤ c := by
  obtain ⟨q, cap, rfl, hc, hlt⟩ := h.form (by omega)
  have hcs := h.cells (g := q) rfl
  have hr : L[k]? = some L[k] := List.getElem?_eq_getElem (by omega)
  refine ⟨q, cap, L[k], rfl, hr, ?_, ?_⟩
  · have := hcs k (f L[k]) (by rw [List.getElem?_map, hr]; rfl)
    unfold Addr.add at this
    split at this
    · rename_i h0; subst h0; exact this
    · simpa using this
  · obtain ⟨A, c, e, hle⟩ := own_form h
    injection e with _ _ e
    omega
set_option maxHeartbeats 4000000 in
theorem still_any (g : Nat) (tv wv : Value) (L : List TRow) (w : World) (h : BkAt g tv wv L w) (hc : ∀ r ∈ L, r.mm = r.ss) :
    Calls Tryz.prog 29 #[.pointer (some ⟨g, 0, none⟩)] w fun e w' => e = .returned (.bool true) ∧ ∃ q, w' = w.drewN q := by
  obtain ⟨A1, c1, rfl, hc1⟩ := own_form h.ot
  obtain ⟨A2, c2, rfl, hc2⟩ := own_form h.ow
  obtain ⟨n, hn⟩ : ∃ n, L.length = n := ⟨_, rfl⟩
  have hl := h.len
  rw [hn] at hl hc1 hc2
  have H := Lib.hid h; have HC := Lib.hid hc; have HN := Lib.hid hn
  clear h hc
  rw [hn] at H
  clear hn
  go_enter Tryz.func29, Tryz.ntmps29
  go_wp2
  go_loopw [3] (fun i wr => ∃ k : Nat, k ≤ n ∧ i = .int .i64 k ∧ Hid (∃ q, wr = w.drewN q)) (fun i _ => n - (intOf i).toNat)
  case atStart => exact ⟨0, Nat.zero_le _, rfl, 0, rfl⟩
  case round =>
    obtain ⟨k, hk, rfl, HQ⟩ := hrel
    obtain ⟨q, hq⟩ := HQ.out
    have hb : BkAt g (.slice A1 n c1) (.slice A2 n c2) L wr := by rw [hq]; exact H.out.drewN q
    have HW := Lib.hid hq
    clear hq HQ
    have e0 : wr.cell? ⟨g, 0, none⟩ = some (.slice A1 n c1) := hb.cell rfl
    have e1 : wr.cell? ⟨g, 1, none⟩ = some (.slice A2 n c2) := hb.cell rfl
    have hot := hb.ot
    have how := hb.ow
    rw [HN.out] at hot how
    by_cases hlt : k < n
    · obtain ⟨q1, c1', r, e, hr, d0, _⟩ := row_at hot HN.out hlt
      injection e with ea _ ec
      subst ea ec
      obtain ⟨q2, c2', r', e, hr', d1, _⟩ := row_at how HN.out hlt
      injection e with ea _ ec
      subst ea ec
      obtain rfl : r = r' := by rw [hr] at hr'; injection hr'
      have hrm := List.mem_of_getElem? hr
      have hrow := hb.rows r hrm
      have hcp := HC.out r hrm
      obtain ⟨rv, rss, rm, rmm⟩ := r
      obtain rfl : rmm = rss := hcp
      have hov : wr.ownsRow 0 9 1 rv rmm.length (strs rmm) := hrow.v
      have hom : wr.ownsRow 0 9 1 rm rmm.length (strs rmm) := hrow.m
      have hlv : rmm.length ≤ 1000000000 := hrow.lv
      clear hrow hr hr' hrm hb hot how
      obtain ⟨A3, c3, rfl, _⟩ := own_form hov
      obtain ⟨A4, c4, rfl, _⟩ := own_form hom
      have qs := fun N => same_any rmm rmm A3 A4 c3 c4 wr.heap.size (wr.drewN N) ((Reads.of_own hov).drewN N) ((Reads.of_own hom).drewN N) (by omega) (by omega)
      obtain ⟨m, hm⟩ : ∃ m, rmm.length = m := ⟨_, rfl⟩
      simp only [sameB_self, hm] at qs d0 d1
      have QS := Lib.hid qs
      have b1 : (0 : Int) ≤ (k : Int) := by omega
      have b2 : (k : Int) < (n : Int) := by omega
      clear hov hom hlv hm qs H HC
      go_wp2
      go_quiet ((go_at_call 9; exact Calls.quiet_of (QS.out _)))
      all_goals
        go_wp2
        go_roundw
        case rel => exact ⟨k + 1, hlt, by go_num, by rw [HW.out, World.drewN_drewN]; exact ⟨_, rfl⟩⟩
        case measure => simp [intOf]; omega
    · obtain rfl : k = n := by omega
      go_wp2
      go_ret
      exact ⟨rfl, q, HW.out⟩
end Go.Proofs.YtlniafpbkhkkaaaGreat
