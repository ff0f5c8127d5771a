/-
  Package wire as contracts: a reader's Text and Bool, with every error.
  Conditions: readers that the call has made.
-/
import Derived.Test.YtkcecijepbceiaaWire8B
import Derived.Test.YtkcecijepbceiaaBytes
namespace Go.Proofs.Ytkcecijepbceiaa
open Go.RowKit

/-- What is wrong with a text's length. -/
def textErr (s : ByteArray) (k : Nat) : Int :=
  if (numTells s k).2.2 ≠ 0 then (numTells s k).2.2 else if 1000 < (numTells s k).1 then 2 else if (numTells s k).1 < 0 then 4 else if (s.size : Int) - (numTells s k).2.1 < (numTells s k).1 then 5 else 0
/-- A reader behind Text, and what Text tells; the same of Bool. -/
def rdText (s : ByteArray) (r : Rd) : ByteArray × Rd :=
  if r.e ≠ 0 then (⟨#[]⟩, r) else if textErr s r.k ≠ 0 then (⟨#[]⟩, ⟨textErr s r.k, r.k⟩) else (s.extract (numTells s r.k).2.1 ((numTells s r.k).2.1 + (numTells s r.k).1.toNat), ⟨0, (numTells s r.k).2.1 + (numTells s r.k).1.toNat⟩)
def byteOf (s : ByteArray) (k : Nat) : Nat := (s.data.toList[k]?.getD 0).toNat
def rdBool (s : ByteArray) (r : Rd) : Bool × Rd :=
  if r.e ≠ 0 then (false, r) else if r.k = s.size then (false, ⟨5, r.k⟩) else if 1 < byteOf s r.k then (false, ⟨4, r.k⟩) else (decide (byteOf s r.k = 1), ⟨0, r.k + 1⟩)
theorem numTells_le {s : ByteArray} {k : Nat} (hk : k ≤ s.size) (h : (numTells s k).2.2 = 0) : (numTells s k).2.1 ≤ s.size := by
  have e : s.data.toList.length = s.size := Array.length_toList
  cases hd : Wire.dec 0 0 (s.data.toList.drop k) with
  | error x =>
    rw [numTells_err hd] at h
    rcases Wire.dec_err _ _ _ _ hd with rfl | rfl <;> cases h
  | ok z =>
    obtain ⟨n, m⟩ := z
    rw [numTells_ok hd]
    have h2 := (Wire.enc_dec0 hd).2.1
    rw [List.length_drop, e] at h2
    show k + m ≤ s.size
    omega
set_option maxHeartbeats 4000000 in
set_option maxRecDepth 10000 in
theorem rText_any (g : Nat) (s : ByteArray) (r : Rd) (w : World) (h : RdAt g r.e s r.k w) (hk : r.k ≤ s.size) (hs : s.size ≤ 1000000000) :
    Calls Try.prog 50 #[.pointer (some ⟨g, 0, none⟩)] w fun x w' => x = .returned (.string (rdText s r).1) ∧ RdAt g (rdText s r).2.e s (rdText s r).2.k w' ∧ Mv [g] [g] w w' := by
  obtain ⟨re, k⟩ := r
  by_cases he : re = 0
  · subst he
    by_cases hok : textErr s k = 0
    · have hn0 : (numTells s k).2.2 = 0 := by
        unfold textErr at hok
        split at hok
        · exact absurd hok (by assumption)
        · rename_i h1; simpa using h1
      have hle := numTells_le hk hn0
      have hb : 0 ≤ (numTells s k).1 ∧ (numTells s k).1 ≤ 1000 ∧ (numTells s k).1 ≤ (s.size : Int) - (numTells s k).2.1 := by
        unfold textErr at hok
        rw [if_neg (by simp [hn0])] at hok
        split at hok
        · cases hok
        · split at hok
          · cases hok
          · split at hok
            · cases hok
            · omega
      have hres : rdText s ⟨0, k⟩ = (s.extract (numTells s k).2.1 ((numTells s k).2.1 + (numTells s k).1.toNat), ⟨0, (numTells s k).2.1 + (numTells s k).1.toNat⟩) := by
        unfold rdText
        rw [if_neg (by simp), if_neg (by simp [hok])]
      rw [hres]
      have ht : numTells s k = (((numTells s k).1.toNat : Int), (numTells s k).2.1, 0) := by
        rw [Int.toNat_of_nonneg hb.1, ← hn0]
      refine (rText_ok g s k (numTells s k).2.1 (numTells s k).1.toNat w h hk hs ht (by omega) (by omega)).mono ?_
      rintro e w' ⟨rfl, h1, h2⟩
      exact ⟨rfl, h1, h2⟩
    · have hres : rdText s ⟨0, k⟩ = (⟨#[]⟩, ⟨textErr s k, k⟩) := by
        unfold rdText
        rw [if_neg (by simp), if_pos hok]
      rw [hres]
      have H := Lib.hid h
      have hr := rnum_any g s k w hk hs h.cell1 h.cell2
      obtain ⟨v, hv⟩ : ∃ v, (numTells s k).1 = v := ⟨_, rfl⟩
      obtain ⟨k', hk'⟩ : ∃ k', (numTells s k).2.1 = k' := ⟨_, rfl⟩
      obtain ⟨x, hx⟩ : ∃ x, (numTells s k).2.2 = x := ⟨_, rfl⟩
      have hle : x = 0 → k' ≤ s.size := by rw [← hx, ← hk']; exact numTells_le hk
      obtain ⟨E, hE⟩ : ∃ E, textErr s k = E := ⟨_, rfl⟩
      have hE2 : E = if x ≠ 0 then x else if 1000 < v then 2 else if v < 0 then 4 else if (s.size : Int) - k' < v then 5 else 0 := by rw [← hE, ← hx, ← hv, ← hk']; rfl
      rw [hv, hk', hx] at hr
      rw [hE] at hok ⊢
      have c1 := h.cell1
      have HRN := Lib.hid hr
      have HF := Lib.hid (fun (W : World) (hW : RdAt g 0 s k W) => rfail_any g s ⟨0, k⟩ E W hW)
      have hfl : rdFail ⟨0, k⟩ E = ⟨E, k⟩ := by unfold rdFail; rw [if_pos rfl]
      rw [hfl] at HF
      have HOK := Lib.hid hok
      have HE2 := Lib.hid hE2
      clear h hr hv hk' hx hE hfl hok hE2
      by_cases hx0 : x = 0
      · have hle2 := hle hx0
        subst hx0
        clear hle
        have he1 : E = if 1000 < v then 2 else if v < 0 then 4 else if (s.size : Int) - k' < v then 5 else 0 := by rw [HE2.out, if_neg (by simp)]
        by_cases h1 : 1000 < v
        · rw [if_pos h1] at he1
          subst he1
          go_enter Try.func50, Try.ntmps50
          go_wp2_with fail
          refine (off_any g 0 s k _ H.out).mono ?_
          rintro e w1 ⟨rfl, rfl⟩
          go_wp2_with fail
          refine HRN.out.mono ?_
          rintro e w1 ⟨rfl, q, rfl⟩
          go_wp2_with fail
          refine (HF.out _ (H.out.drewN q)).mono ?_
          rintro e w2 ⟨rfl, hr2, hm2⟩
          go_wp2
          go_ret
          exact ⟨rfl, hr2, ((Mv.refl [g] w).drewN q).trans hm2⟩
        · rw [if_neg h1] at he1
          by_cases h2 : v < 0
          · rw [if_pos h2] at he1
            subst he1
            go_enter Try.func50, Try.ntmps50
            go_wp2_with fail
            refine (off_any g 0 s k _ H.out).mono ?_
            rintro e w1 ⟨rfl, rfl⟩
            go_wp2_with fail
            refine HRN.out.mono ?_
            rintro e w1 ⟨rfl, q, rfl⟩
            go_wp2_with fail
            refine (HF.out _ (H.out.drewN q)).mono ?_
            rintro e w2 ⟨rfl, hr2, hm2⟩
            go_wp2
            go_ret
            exact ⟨rfl, hr2, ((Mv.refl [g] w).drewN q).trans hm2⟩
          · rw [if_neg h2] at he1
            by_cases h3 : (s.size : Int) - k' < v
            · rw [if_pos h3] at he1
              subst he1
              have c1' : ∀ q, (w.drewN q).cell? ⟨g, 1, none⟩ = some (.string s) := fun _ => c1
              have i1 : (0 : Int) ≤ (s.size : Int) - k' := by omega
              go_enter Try.func50, Try.ntmps50
              go_wp2_with fail
              refine (off_any g 0 s k _ H.out).mono ?_
              rintro e w1 ⟨rfl, rfl⟩
              go_wp2_with fail
              refine HRN.out.mono ?_
              rintro e w1 ⟨rfl, q, rfl⟩
              have c1q := c1' q
              go_wp2_with fail
              refine (HF.out _ (H.out.drewN q)).mono ?_
              rintro e w2 ⟨rfl, hr2, hm2⟩
              go_wp2
              go_ret
              exact ⟨rfl, hr2, ((Mv.refl [g] w).drewN q).trans hm2⟩
            · rw [if_neg h3] at he1
              exact absurd he1 HOK.out
      · have he1 : E = x := by rw [HE2.out, if_pos hx0]
        subst he1
        have hx' : (E != 0) = true := by simp [hx0]
        clear hle
        go_enter Try.func50, Try.ntmps50
        go_wp2_with fail
        refine (off_any g 0 s k _ H.out).mono ?_
        rintro e w1 ⟨rfl, rfl⟩
        go_wp2_with fail
        refine HRN.out.mono ?_
        rintro e w1 ⟨rfl, q, rfl⟩
        go_wp2_with fail
        refine (HF.out _ (H.out.drewN q)).mono ?_
        rintro e w2 ⟨rfl, hr2, hm2⟩
        go_wp2
        go_ret
        exact ⟨rfl, hr2, ((Mv.refl [g] w).drewN q).trans hm2⟩
  · have hres : rdText s ⟨re, k⟩ = (⟨#[]⟩, ⟨re, k⟩) := by unfold rdText; rw [if_pos he]
    rw [hres]
    have he2 : (re != 0) = true := by simp [he]
    have H := Lib.hid h
    have HO := Lib.hid (off_any g re s k w h)
    rw [he2] at HO
    clear h he he2
    go_enter Try.func50, Try.ntmps50
    go_wp2_with fail
    refine HO.out.mono ?_
    rintro e w1 ⟨rfl, rfl⟩
    go_wp2
    go_ret
    exact ⟨rfl, H.out, Mv.refl _ _⟩
theorem byteOf_is {s : ByteArray} {k : Nat} (h : k < s.size) : (s[k] : UInt8).toNat = byteOf s k := by
  unfold byteOf
  rw [byte_at s h]
  rfl
set_option maxHeartbeats 4000000 in
set_option maxRecDepth 10000 in
theorem rBool_any (g : Nat) (s : ByteArray) (r : Rd) (w : World) (h : RdAt g r.e s r.k w) (hk : r.k ≤ s.size) (hs : s.size ≤ 1000000000) :
    Calls Try.prog 46 #[.pointer (some ⟨g, 0, none⟩)] w fun x w' => x = .returned (.bool (rdBool s r).1) ∧ RdAt g (rdBool s r).2.e s (rdBool s r).2.k w' ∧ Mv [g] [g] w w' := by
  obtain ⟨re, k⟩ := r
  by_cases he : re = 0
  · subst he
    by_cases hend : k = s.size
    · have hres : rdBool s ⟨0, k⟩ = (false, ⟨5, k⟩) := by unfold rdBool; rw [if_neg (by simp), if_pos hend]
      rw [hres]
      have H := Lib.hid h
      have HF := Lib.hid (fun (W : World) (hW : RdAt g 0 s k W) => rfail_any g s ⟨0, k⟩ 5 W hW)
      have hfl : rdFail ⟨0, k⟩ 5 = ⟨5, k⟩ := by unfold rdFail; rw [if_pos rfl]
      rw [hfl] at HF
      have c1 : w.cell? ⟨g, 1, none⟩ = some (.string s) := h.cell1
      have c2 : w.cell? ⟨g, 2, none⟩ = some (.int .i64 k) := h.cell2
      have hq : ((k : Int) == (s.size : Int)) = true := by rw [hend]; exact beq_self_eq_true _
      clear h hres hfl hend
      go_enter Try.func46, Try.ntmps46
      go_wp2_with fail
      refine (off_any g 0 s k _ H.out).mono ?_
      rintro e w1 ⟨rfl, rfl⟩
      go_wp2
      go_quiet (fail)
      go_wp2_with fail
      refine (HF.out _ (H.out.drewN _)).mono ?_
      rintro e w2 ⟨rfl, hr2, hm2⟩
      go_wp2
      go_ret
      exact ⟨rfl, hr2, ((Mv.refl [g] w).drewN _).trans hm2⟩
    · have hk : k ≤ s.size := hk
      have hlt : k < s.size := by omega
      by_cases hbig : 1 < byteOf s k
      · have hres : rdBool s ⟨0, k⟩ = (false, ⟨4, k⟩) := by unfold rdBool; rw [if_neg (by simp), if_neg hend, if_pos hbig]
        rw [hres]
        have H := Lib.hid h
        have HF := Lib.hid (fun (W : World) (hW : RdAt g 0 s k W) => rfail_any g s ⟨0, k⟩ 4 W hW)
        have hfl : rdFail ⟨0, k⟩ 4 = ⟨4, k⟩ := by unfold rdFail; rw [if_pos rfl]
        rw [hfl] at HF
        have c1 : w.cell? ⟨g, 1, none⟩ = some (.string s) := h.cell1
        have c2 : w.cell? ⟨g, 2, none⟩ = some (.int .i64 k) := h.cell2
        have hq : ((k : Int) == (s.size : Int)) = false := beq_false_of_ne (by omega)
        have i1 : (k : Int) < (s.size : Int) := by omega
        have i2 : (0 : Int) ≤ (k : Int) := by omega
        rw [← byteOf_is hlt] at hbig
        have b1 : (1 : Int) < ((s[k] : UInt8).toNat : Int) := by omega
        have b2 : (1 : UInt8) < s[k] := by rw [UInt8.lt_iff_toNat_lt]; exact hbig
        clear h hres hfl hend
        go_enter Try.func46, Try.ntmps46
        go_wp2_with fail
        refine (off_any g 0 s k _ H.out).mono ?_
        rintro e w1 ⟨rfl, rfl⟩
        go_wp2
        go_quiet (fail)
        go_wp2
        go_quiet (fail)
        go_wp2_with fail
        refine (HF.out _ (H.out.drewN _)).mono ?_
        rintro e w2 ⟨rfl, hr2, hm2⟩
        go_wp2
        go_ret
        exact ⟨rfl, hr2, ((Mv.refl [g] w).drewN _).trans hm2⟩
      · have hres : rdBool s ⟨0, k⟩ = (decide (byteOf s k = 1), ⟨0, k + 1⟩) := by unfold rdBool; rw [if_neg (by simp), if_neg hend, if_neg hbig]
        rw [hres]
        refine rBool_ok g s k (decide (byteOf s k = 1)) w h hlt hs ?_
        rw [byteOf_is hlt]
        by_cases h1 : byteOf s k = 1
        · rw [h1]; rfl
        · have h0 : byteOf s k = 0 := by omega
          rw [h0]; rfl
  · have hres : rdBool s ⟨re, k⟩ = (false, ⟨re, k⟩) := by unfold rdBool; rw [if_pos he]
    rw [hres]
    have he2 : (re != 0) = true := by simp [he]
    have H := Lib.hid h
    have HO := Lib.hid (off_any g re s k w h)
    rw [he2] at HO
    clear h he he2
    go_enter Try.func46, Try.ntmps46
    go_wp2_with fail
    refine HO.out.mono ?_
    rintro e w1 ⟨rfl, rfl⟩
    go_wp2
    go_ret
    exact ⟨rfl, H.out, Mv.refl _ _⟩
end Go.Proofs.Ytkcecijepbceiaa
