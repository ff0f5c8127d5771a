/-
  Package name as a contract: which of two texts comes first; the names of a map stand in that order.
  Conditions: texts.
-/
import Derived.Test.YtnpkplegeddhcaaRefName
import Derived.Test.YtnpkplegeddhcaaMemLst
namespace Go.Proofs.Ytnpkplegeddhcaa
open Go.RowKit Go.Maps Go.Sort

def lessS (a b : ByteArray) : Bool := Op.bytesLess a.toList b.toList
def cmpS (a b : ByteArray) : Int := if lessS a b = true then -1 else if lessS b a = true then 1 else 0
theorem less_swap (a b : ByteArray) : lessS b a = !(lessS a b || a.toList == b.toList) := by
  unfold lessS
  rw [bytesLess_eq, bytesLess_eq]
  generalize a.toList = x
  generalize b.toList = y
  by_cases h : x < y
  · rw [decide_eq_true h, decide_eq_false (List.lt_asymm h)]; rfl
  · rw [decide_eq_false h]
    by_cases e : x = y
    · subst e
      rw [decide_eq_false h]
      simp
    · have h2 : y < x := by
        rcases Decidable.em (y < x) with h3 | h3
        · exact h3
        · exact absurd (List.le_antisymm (List.not_lt.1 h3) (List.not_lt.1 h)) e
      rw [decide_eq_true h2]
      simp [e]
theorem nan_any (s : ByteArray) (w : World) : Calls Try.prog 57 #[.string s] w fun e w' => e = .returned (.bool false) ∧ w = w' := by
  go_enter Try.func57, Try.ntmps57
  go_wp2
  go_ret
  exact ⟨ret_bool (by simp), rfl⟩
theorem cmp_any (a b : ByteArray) (w : World) : Calls Try.prog 45 #[.string a, .string b] w fun e w' => e = .returned (.int .i64 (cmpS a b)) ∧ w = w' := by
  have hsw := less_swap a b
  cases h1 : lessS a b
  · have h1' : Op.bytesLess a.toList b.toList = false := h1
    cases h2 : (a.toList == b.toList)
    · have hc : cmpS a b = 1 := by unfold cmpS; rw [hsw, h1, h2]; rfl
      rw [hc]
      have H1 := Lib.hid h1
      clear hc h1 hsw
      go_enter Try.func45, Try.ntmps45
      go_wp2_with fail
      refine (nan_any a _).mono ?_
      rintro e w1 ⟨rfl, rfl⟩
      go_wp2_with fail
      refine (nan_any b _).mono ?_
      rintro e w1 ⟨rfl, rfl⟩
      go_wp2
      go_ret
      exact ⟨rfl, rfl⟩
    · have hc : cmpS a b = 0 := by unfold cmpS; rw [hsw, h1, h2]; rfl
      rw [hc]
      have H1 := Lib.hid h1
      clear hc h1 hsw
      go_enter Try.func45, Try.ntmps45
      go_wp2_with fail
      refine (nan_any a _).mono ?_
      rintro e w1 ⟨rfl, rfl⟩
      go_wp2_with fail
      refine (nan_any b _).mono ?_
      rintro e w1 ⟨rfl, rfl⟩
      go_wp2
      go_ret
      exact ⟨rfl, rfl⟩
  · have h1' : Op.bytesLess a.toList b.toList = true := h1
    have hc : cmpS a b = -1 := by unfold cmpS; rw [h1]; rfl
    rw [hc]
    clear hc
    have H1 := Lib.hid h1
    clear h1 hsw
    go_enter Try.func45, Try.ntmps45
    go_wp2_with fail
    refine (nan_any a _).mono ?_
    rintro e w1 ⟨rfl, rfl⟩
    go_wp2_with fail
    refine (nan_any b _).mono ?_
    rintro e w1 ⟨rfl, rfl⟩
    go_wp2
    go_ret
    exact ⟨rfl, rfl⟩
theorem compare_any (a b : ByteArray) (w : World) : Calls Try.prog 17 #[.string a, .string b] w fun e w' => e = .returned (.int .i64 (cmpS a b)) ∧ w = w' := by
  obtain ⟨c, hc⟩ : ∃ c, cmpS a b = c := ⟨_, rfl⟩
  have h := cmp_any a b
  rw [hc] at h ⊢
  have H := fun w => Lib.hid (h w)
  clear h hc
  go_enter Try.func17, Try.ntmps17
  go_wp2_with fail
  refine (H _).out.mono ?_
  rintro e w1 ⟨rfl, rfl⟩
  go_wp2
  go_ret
  exact ⟨rfl, rfl⟩
theorem lessS_iff (a b : ByteArray) : lessS a b = true ↔ a.toList < b.toList := by unfold lessS; rw [bytesLess_eq]; simp
theorem cmp_cases (a b : ByteArray) : (cmpS a b = -1 ∧ a.toList < b.toList) ∨ (cmpS a b = 1 ∧ b.toList < a.toList) ∨ (cmpS a b = 0 ∧ ¬ a.toList < b.toList ∧ ¬ b.toList < a.toList) := by
  unfold cmpS
  by_cases h1 : lessS a b = true
  · rw [if_pos h1]; exact .inl ⟨rfl, (lessS_iff a b).1 h1⟩
  · rw [if_neg h1]
    have h1' : ¬ a.toList < b.toList := fun h => h1 ((lessS_iff a b).2 h)
    by_cases h2 : lessS b a = true
    · rw [if_pos h2]; exact .inr (.inl ⟨rfl, (lessS_iff b a).1 h2⟩)
    · rw [if_neg h2]
      exact .inr (.inr ⟨rfl, h1', fun h => h2 ((lessS_iff b a).2 h)⟩)
theorem toList_inj {a b : ByteArray} (h : a.toList = b.toList) : a = b := bytes_eq_iff.1 (by rw [h]; exact beq_self_eq_true _)
theorem cmp_zero (a b : ByteArray) : cmpS a b = 0 ↔ a = b := by
  constructor
  · intro h
    rcases cmp_cases a b with ⟨h1, _⟩ | ⟨h1, _⟩ | ⟨_, h2, h3⟩
    · omega
    · omega
    · exact toList_inj (List.le_antisymm (List.not_lt.1 h3) (List.not_lt.1 h2))
  · rintro rfl
    rcases cmp_cases a a with ⟨_, h⟩ | ⟨_, h⟩ | ⟨h, _⟩
    · exact absurd h (List.lt_irrefl _)
    · exact absurd h (List.lt_irrefl _)
    · exact h
theorem cmp_swap (a b : ByteArray) : cmpS b a = - cmpS a b := by
  rcases cmp_cases a b with ⟨h1, h2⟩ | ⟨h1, h2⟩ | ⟨h1, h2, h3⟩ <;> rcases cmp_cases b a with ⟨k1, k2⟩ | ⟨k1, k2⟩ | ⟨k1, k2, k3⟩ <;> rw [h1, k1] <;> first | rfl | exact absurd k2 (List.lt_asymm h2) | exact absurd h2 k3 | exact absurd h2 k2 | exact absurd k2 h3 | exact absurd k2 h2
theorem cmp_le (a b : ByteArray) : cmpS a b ≤ 0 ↔ a.toList ≤ b.toList := by
  rcases cmp_cases a b with ⟨h1, h2⟩ | ⟨h1, h2⟩ | ⟨h1, h2, h3⟩
  · rw [h1]; exact ⟨fun _ => List.not_lt.1 (List.lt_asymm h2), fun _ => by omega⟩
  · rw [h1]; exact ⟨fun h => by omega, fun h => absurd h2 (List.not_lt.2 h)⟩
  · rw [h1]; exact ⟨fun _ => List.not_lt.1 h3, fun _ => by omega⟩
/-- The names of a map are strictly in order. -/
theorem lstS_nodup {D : DataW Unit} (h : GoodS D) : (lstS D).Nodup := by
  obtain ⟨ht, es, rfl, hk⟩ := h
  obtain ⟨_, e1, hp⟩ := ht
  injection e1 with e1
  subst e1
  have nd : (strKeys (.map es : DataW Unit)).Nodup := by
    show (es.map fun p => strOf p.1).Nodup
    refine List.pairwise_map.2 (hp.imp_of_mem fun {p q} hp' hq' hne e => hne ?_)
    obtain ⟨a, ha⟩ := hk p hp'
    obtain ⟨b, hb⟩ := hk q hq'
    rw [ha, hb] at e ⊢
    exact congrArg _ e
  unfold lstS
  refine List.pairwise_map.2 ((((List.mergeSort_perm _ leB).nodup_iff).2 nd).imp fun {a b} hne e => hne ?_)
  injection e with e
  injection e
theorem lstS_sorted (D : DataW Unit) : (lstS D).Pairwise fun a b => a.toList ≤ b.toList := by
  unfold lstS
  refine List.pairwise_map.2 ?_
  have h := List.pairwise_mergeSort (le := leB) (fun a b c h1 h2 => by simp only [leB, decide_eq_true_eq] at h1 h2 ⊢; exact List.le_trans h1 h2) (fun a b => by simp only [leB, Bool.or_eq_true, decide_eq_true_eq]; exact List.le_total a b) (strKeys D)
  refine h.imp fun {a b} h => ?_
  simp only [leB, decide_eq_true_eq] at h
  simpa [ByteArray.toList_eq] using h
theorem lstS_lt {D : DataW Unit} (h : GoodS D) {i j : Nat} {a b : ByteArray} (hij : i < j) (ha : (lstS D)[i]? = some a) (hb : (lstS D)[j]? = some b) : cmpS a b < 0 := by
  obtain ⟨hi, rfl⟩ := List.getElem?_eq_some_iff.1 ha
  obtain ⟨hj, rfl⟩ := List.getElem?_eq_some_iff.1 hb
  have h1 := List.pairwise_iff_getElem.1 (lstS_sorted D) i j hi hj hij
  have h2 := List.pairwise_iff_getElem.1 (lstS_nodup h) i j hi hj hij
  have h3 := (cmp_le _ _).2 h1
  have h4 : cmpS (lstS D)[i] (lstS D)[j] ≠ 0 := fun e => h2 ((cmp_zero _ _).1 e)
  omega
end Go.Proofs.Ytnpkplegeddhcaa
