/-
  DiskNames: a file that is called otherwise has its bytes, under its new name alone; another one of that name is gone.
  Conditions: texts, a truth.
-/
import Derived.Test.YtofnglegdhchnaaDiskKeeps
namespace Go.Proofs.Ytofnglegdhchnaa
open Go.RowKit Go.Maps Go.Sort

theorem valid_yes {s : ByteArray} (h1 : 0 < s.size) (h2 : s.size ≤ 40) : validB s = true := decide_eq_true ⟨h1, h2⟩
section
variable {a b x y : ByteArray} {n m : Int}
/-- Two files. -/
theorem has_two (h : b ≠ a) : hasS (oneF a x n) b = false := not_one h
theorem rename_one (h : b ≠ a) : putF (delF (oneF a x n) a) b (fileAt (oneF a x n) a).1 (fileAt (oneF a x n) a).2 = oneF b x n := by rw [del_one, at_one, put_none]
end
section
variable {a b x y z : ByteArray} {n m l : Int}
theorem put_two (h : b ≠ a) : putF (putF (oneF a x n) b y m) b z l = putF (oneF a x n) b z l := by
  have hba : (kS a).sameKey (kS b) = false := sameKey_ne (fun e => h (kS_inj e).symm)
  have hbb := key_self b
  show DataW.map (DataW.insert (kS b, fileD z l) (List.filter (fun p => !p.1.sameKey (kS b)) (DataW.insert (kS b, fileD y m) (List.filter (fun p => !p.1.sameKey (kS b)) [(kS a, fileD x n)])))) = DataW.map (DataW.insert (kS b, fileD z l) (List.filter (fun p => !p.1.sameKey (kS b)) [(kS a, fileD x n)]))
  have e : List.filter (fun p => !p.1.sameKey (kS b)) [(kS a, fileD x n)] = [(kS a, fileD x n)] := by rw [List.filter_cons, hba]; rfl
  rw [e]
  have e2 : List.filter (fun p => !p.1.sameKey (kS b)) (DataW.insert (kS b, fileD y m) [(kS a, fileD x n)]) = [(kS a, fileD x n)] := by
    unfold DataW.insert
    split
    · rw [List.filter_cons, hbb, e]; rfl
    · unfold DataW.insert
      rw [List.filter_cons, hba, List.filter_cons, hbb]; rfl
  rw [e2]
theorem del_two (h : b ≠ a) : delF (putF (oneF a x n) b y m) a = oneF b y m := by
  have hba : (kS a).sameKey (kS b) = false := sameKey_ne (fun e => h (kS_inj e).symm)
  have hab : (kS b).sameKey (kS a) = false := sameKey_ne (fun e => h (kS_inj e))
  have haa := key_self a
  show DataW.map (List.filter (fun p => !p.1.sameKey (kS a)) (DataW.insert (kS b, fileD y m) (List.filter (fun p => !p.1.sameKey (kS b)) [(kS a, fileD x n)]))) = DataW.map [(kS b, fileD y m)]
  have e : List.filter (fun p => !p.1.sameKey (kS b)) [(kS a, fileD x n)] = [(kS a, fileD x n)] := by rw [List.filter_cons, hba]; rfl
  rw [e]
  unfold DataW.insert
  split
  · rw [List.filter_cons, hab, List.filter_cons, haa]; rfl
  · unfold DataW.insert
    rw [List.filter_cons, haa, List.filter_cons, hab]; rfl
theorem size_two (h : b ≠ a) : Maps.size (putF (oneF a x 0) b y m) = 2 := by rw [sizeF_put (good_one (Int.le_refl _) (by omega)), not_one h]; rfl
theorem tot_two : totF (putF (oneF a x 0) b y m) ≤ x.size + y.size := by have := totF_put_le (good_one (s := a) (x := x) (n := 0) (Int.le_refl _) (by omega)) b y m; rw [tot_one] at this; exact this
end
theorem upO_range {o : Int} (h0 : 0 ≤ o) : 0 ≤ upO o ∧ upO o ≤ 4611686018427387904 := by unfold upO; omega
theorem size_one2 {s x : ByteArray} {n : Int} : Maps.size (oneF s x n) ≤ 1000000 := by show 1 ≤ _; decide

set_option maxHeartbeats 4000000 in
set_option maxRecDepth 100000 in
theorem dnames_early (a b x y : ByteArray) (t : Bool) (w : World) (h : a = b ∨ a.size < 1 ∨ 40 < a.size ∨ b.size < 1 ∨ 40 < b.size ∨ 3000 < x.size ∨ 3000 < y.size) :
    Calls Try.prog 7 #[.string a, .string b, .string x, .string y, .bool t] w fun e w' => e = .returned (.bool true) ∧ Below w.heap.size w w' := by
  by_cases hab : a = b
  · subst hab
    have hq : (a.toList == a.toList) = true := beq_self_eq_true _
    go_enter Try.func7, Try.ntmps7
    go_wp2_with fail
    refine (alive5_any _).mono ?_
    rintro e w2 ⟨rfl, hb2⟩
    have HB2 := Lib.hid hb2
    clear hb2
    go_wp2
    go_ret
    exact ⟨rfl, HB2.out⟩
  have hq : (a.toList == b.toList) = false := by
    cases h1 : (a.toList == b.toList)
    · rfl
    · exact absurd (bytes_eq_iff.1 h1) hab
  rcases (show (a.size < 1) ∨ (¬ a.size < 1 ∧ 40 < a.size) ∨ (¬ a.size < 1 ∧ ¬ 40 < a.size ∧ b.size < 1) ∨ (¬ a.size < 1 ∧ ¬ 40 < a.size ∧ ¬ b.size < 1 ∧ 40 < b.size) ∨ (¬ a.size < 1 ∧ ¬ 40 < a.size ∧ ¬ b.size < 1 ∧ ¬ 40 < b.size ∧ 3000 < x.size) ∨ (¬ a.size < 1 ∧ ¬ 40 < a.size ∧ ¬ b.size < 1 ∧ ¬ 40 < b.size ∧ ¬ 3000 < x.size ∧ 3000 < y.size) from by
    rcases h with h | h
    · exact absurd h hab
    · omega) with h1 | ⟨h1, h2⟩ | ⟨h1, h2, h3⟩ | ⟨h1, h2, h3, h4⟩ | ⟨h1, h2, h3, h4, h5⟩ | ⟨h1, h2, h3, h4, h5, h6⟩
  all_goals
    clear h hab
    go_enter Try.func7, Try.ntmps7
    go_wp2_with fail
    refine (alive5_any _).mono ?_
    rintro e w2 ⟨rfl, hb2⟩
    have HB2 := Lib.hid hb2
    clear hb2
    go_wp2
    go_ret
    exact ⟨rfl, HB2.out⟩

set_option maxHeartbeats 4000000 in
set_option maxRecDepth 100000 in
theorem dnames_walk (a b x y : ByteArray) (t : Bool) (w : World) :
    Calls Try.prog 7 #[.string a, .string b, .string x, .string y, .bool t] w fun e w' => e = .returned (.bool true) ∧ Below w.heap.size w w' := by
  by_cases he : a = b ∨ a.size < 1 ∨ 40 < a.size ∨ b.size < 1 ∨ 40 < b.size ∨ 3000 < x.size ∨ 3000 < y.size
  · exact dnames_early a b x y t w he
  have hab : a ≠ b := fun e => he (.inl e)
  have i1 : ¬ a.size < 1 := fun e => he (.inr (.inl e))
  have i2 : ¬ 40 < a.size := fun e => he (.inr (.inr (.inl e)))
  have i3 : ¬ b.size < 1 := fun e => he (.inr (.inr (.inr (.inl e))))
  have i4 : ¬ 40 < b.size := fun e => he (.inr (.inr (.inr (.inr (.inl e)))))
  have i5 : ¬ 3000 < x.size := fun e => he (.inr (.inr (.inr (.inr (.inr (.inl e))))))
  have i6 : ¬ 3000 < y.size := fun e => he (.inr (.inr (.inr (.inr (.inr (.inr e))))))
  clear he
  have hq : (a.toList == b.toList) = false := by
    cases h1 : (a.toList == b.toList)
    · rfl
    · exact absurd (bytes_eq_iff.1 h1) hab
  have hqx : (x.toList == x.toList) = true := beq_self_eq_true _
  have hqb : (b.toList == b.toList) = true := beq_self_eq_true _
  have hba : b ≠ a := fun e => hab e.symm
  have va := valid_yes (s := a) (by omega) (by omega)
  have vb := valid_yes (s := b) (by omega) (by omega)
  have sa9 : a.size ≤ 9223372036854775807 := by omega
  have sb9 : b.size ≤ 9223372036854775807 := by omega
  have R1 := fun (c d : Nat) w (h : DkAt c d (onD 0 (.map [])) w) => create_any c d _ (onD_ok goodF_none (by decide) (by decide) (by decide) (by decide)) a sa9 w h
  rw [create_new va rfl (by decide), put_none] at R1
  have R2 := fun (c d : Nat) w (h : DkAt c d (onD 1 (oneF a ⟨#[]⟩ 0)) w) => append_any c d _ (onD_ok (good_one (by decide) (by decide)) (by decide) (by decide) size_one2 (by rw [tot_one]; decide)) a x sa9 (by omega) w h
  rw [append_on has_one (by rw [tot_one]; show 0 + x.size ≤ 400000; omega), at_one, put_one, none_app] at R2
  have ga : GoodF (oneF a x 0) := good_one (by decide) (by omega)
  have gb : GoodF (oneF b x 0) := good_one (by decide) (by omega)
  have okb : ∀ o : Int, 0 ≤ o → o ≤ 4611686018427387904 → (onD o (oneF b x 0)).Ok := fun o h0 h1 => onD_ok gb h0 h1 size_one2 (by rw [tot_one]; omega)
  have R5 := fun (o : Int) (h0 : 0 ≤ o) (h1 : o ≤ 4611686018427387904) (c d : Nat) w (h : DkAt c d (onD o (oneF b x 0)) w) => read_any c d _ (okb o h0 h1).good b sb9 w h
  simp only [read_on, at_one, if_pos has_one] at R5
  have R6 := fun (o : Int) (h0 : 0 ≤ o) (h1 : o ≤ 4611686018427387904) (c d : Nat) w (h : DkAt c d (onD o (oneF b x 0)) w) => read_any c d _ (okb o h0 h1).good a sa9 w h
  have hna : hasS (oneF b x 0) a = false := not_one hab
  simp only [read_on, fileAt_none hna, hna, if_neg (show ¬ (false = true) by decide)] at R6
  have R7 := fun (o : Int) (h0 : 0 ≤ o) (h1 : o ≤ 4611686018427387904) (c d : Nat) w (h : DkAt c d (onD o (oneF b x 0)) w) => files_any c d _ (okb o h0 h1) w h
  have el : ∀ o, lstS (onD o (oneF b x 0)).fs = [b] := fun o => lst_one
  simp only [el] at R7
  have R8 := fun (o : Int) (h0 : 0 ≤ o) (h1 : o ≤ 4611686018427387904) (c d : Nat) w (h : DkAt c d (onD o (oneF b x 0)) w) => rename_any c d _ (okb o h0 h1) b b sb9 w h
  have e8 : ∀ o, renameD (onD o (oneF b x 0)) b b = (0, onD (upO o) (oneF b x 0)) := fun o => by rw [rename_on has_one vb, del_one, at_one, put_none]
  simp only [e8] at R8
  have R9 := fun (o : Int) (h0 : 0 ≤ o) (h1 : o ≤ 4611686018427387904) (c d : Nat) w (h : DkAt c d (onD o (oneF b x 0)) w) => rename_any c d _ (okb o h0 h1) a b sa9 w h
  have e9 : ∀ o, renameD (onD o (oneF b x 0)) a b = (7, onD (upO o) (oneF b x 0)) := fun o => rename_none hna
  simp only [e9] at R9
  have Q1 := fun c b w h => Lib.hid (R1 c b w h); have Q2 := fun c b w h => Lib.hid (R2 c b w h)
  have Q5 := fun o h0 h1 c b w h => Lib.hid (R5 o h0 h1 c b w h); have Q6 := fun o h0 h1 c b w h => Lib.hid (R6 o h0 h1 c b w h); have Q7 := fun o h0 h1 c b w h => Lib.hid (R7 o h0 h1 c b w h); have Q8 := fun o h0 h1 c b w h => Lib.hid (R8 o h0 h1 c b w h); have Q9 := fun o h0 h1 c b w h => Lib.hid (R9 o h0 h1 c b w h)
  clear R1 R2 R5 R6 R7 R8 R9 e8 e9 el hna okb
  cases t
  · have R4 := fun (c d : Nat) w (h : DkAt c d (onD 2 (oneF a x 0)) w) => rename_any c d _ (onD_ok ga (by decide) (by decide) size_one2 (by rw [tot_one]; omega)) a b sa9 w h
    rw [rename_on has_one vb, rename_one hba] at R4
    have Q4 := fun c b w h => Lib.hid (R4 c b w h)
    clear R4 va vb ga gb
    go_enter Try.func7, Try.ntmps7
    go_wp2_with fail
    refine (new_any _).mono ?_
    rintro e w1 ⟨c, d, rfl, h1, hc, hd, hb1⟩
    have HB1 := Lib.hid hb1
    have q1 := Q1 c d w1 h1
    clear hb1 h1
    go_wp2_with fail
    refine q1.out.mono ?_
    rintro e w2 ⟨rfl, h2, hm2⟩
    have HB2 := Lib.hid (Dk.there hc hd HB1.out hm2)
    have q2 := Q2 c d w2 h2
    clear h2 hm2
    go_wp2_with fail
    refine q2.out.mono ?_
    rintro e w3 ⟨rfl, h3, hm3⟩
    have HB3 := Lib.hid (Dk.there hc hd HB2.out hm3)
    have q6 := Q4 c d w3 h3
    have HB6 := HB3
    clear h3 hm3
    go_wp2_with fail
    refine q6.out.mono ?_
    rintro e w7 ⟨rfl, h7, hm7⟩
    have HB7 := Lib.hid (Dk.there hc hd HB6.out hm7)
    have HK7 := Lib.hid h7
    have q7 := Q5 _ (by decide) (by decide) c d w7 h7
    clear h7 hm7
    go_wp2_with fail
    refine q7.out.mono ?_
    rintro e w8 ⟨rfl, hb8⟩
    have h8 := HK7.out.below hb8 HK7.out.lt HK7.out.ltb
    have HB8 := Lib.hid (HB7.out.trans (hb8.mono HB7.out.size))
    have HK8 := Lib.hid h8
    have q8 := Q6 _ (by decide) (by decide) c d w8 h8
    clear h8 hb8
    go_wp2_with fail
    refine q8.out.mono ?_
    rintro e w9 ⟨rfl, hb9⟩
    have h9 := HK8.out.below hb9 HK8.out.lt HK8.out.ltb
    have HB9 := Lib.hid (HB8.out.trans (hb9.mono HB8.out.size))
    have HK9 := Lib.hid h9
    have q9 := Q7 _ (by decide) (by decide) c d w9 h9
    clear h9 hb9
    go_wp2_with fail
    refine q9.out.mono ?_
    rintro e w10 ⟨A, cp, rfl, hr, hA, hb10⟩
    obtain ⟨ad, rfl, hab10, hcell⟩ := hr.2 Nat.zero_lt_one
    have c0 : w10.cell? ad = some (.string b) := by have h := hcell 0 _ rfl; rw [show ad.add 0 = ad from by unfold Addr.add; rfl] at h; exact h
    have h10 := HK9.out.below hb10 HK9.out.lt HK9.out.ltb
    have HB10 := Lib.hid (HB9.out.trans (hb10.mono HB9.out.size))
    have HK10 := Lib.hid h10
    clear hr hA hb10 h10 hcell
    go_wp2_with fail
    refine (alive5_any _).mono ?_
    rintro e w11 ⟨rfl, hb11⟩
    have h11 := HK10.out.below hb11 HK10.out.lt HK10.out.ltb
    have HB11 := Lib.hid (HB10.out.trans (hb11.mono HB10.out.size))
    have c1 : w11.cell? ad = some (.string b) := (hb11.cell hab10).trans c0
    have q11 := Q8 _ (by decide) (by decide) c d w11 h11
    clear h11 hb11 c0
    go_wp2_with fail
    refine q11.out.mono ?_
    rintro e w12 ⟨rfl, h12, hm12⟩
    have HB12 := Lib.hid (Dk.there hc hd HB11.out hm12)
    have q12 := Q9 _ (upO_range (by decide)).1 (upO_range (by decide)).2 c d w12 h12
    clear h12 hm12
    go_wp2_with fail
    refine q12.out.mono ?_
    rintro e w13 ⟨rfl, h13, hm13⟩
    have HB13 := Lib.hid (Dk.there hc hd HB12.out hm13)
    clear h13 hm13
    go_wp2
    go_ret
    exact ⟨rfl, HB13.out⟩
  · have gt : ∀ z : ByteArray, GoodF (putF (oneF a x 0) b z 0) := fun z => ga.put b z (by decide) (by omega)
    have R3 := fun (c d : Nat) w (h : DkAt c d (onD 2 (oneF a x 0)) w) => create_any c d _ (onD_ok ga (by decide) (by decide) size_one2 (by rw [tot_one]; omega)) b sb9 w h
    rw [create_new vb (not_one hba) (by show 1 < 40; decide)] at R3
    have hb2 : ∀ z : ByteArray, hasS (putF (oneF a x 0) b z 0) b = true := fun z => (hasF_put ga b z 0 b).2 (.inl rfl)
    have ha2 : ∀ z : ByteArray, hasS (putF (oneF a x 0) b z 0) a = true := fun z => (hasF_put ga b z 0 a).2 (.inr has_one)
    have t2 := fun z : ByteArray => tot_two (a := a) (b := b) (x := x) (y := z) (m := 0)
    have z2 : ∀ z : ByteArray, Maps.size (putF (oneF a x 0) b z 0) ≤ 1000000 := fun z => by rw [size_two hba]; decide
    have t20 := t2 ⟨#[]⟩
    have hz0 : (⟨#[]⟩ : ByteArray).size = 0 := rfl
    have R33 := fun (c d : Nat) w (h : DkAt c d (onD 3 (putF (oneF a x 0) b ⟨#[]⟩ 0)) w) => append_any c d _ (onD_ok (gt _) (by decide) (by decide) (z2 _) (by omega)) b y sb9 (by omega) w h
    rw [append_on (hb2 _) (by omega), fileAt_put_same ga, put_two hba, none_app] at R33
    have t2y := t2 y
    have R4 := fun (c d : Nat) w (h : DkAt c d (onD 4 (putF (oneF a x 0) b y 0)) w) => rename_any c d _ (onD_ok (gt _) (by decide) (by decide) (z2 _) (by omega)) a b sa9 w h
    rw [rename_on (ha2 _) vb, del_two hba, fileAt_put_other hab, at_one, put_one] at R4
    have Q3 := fun c b w h => Lib.hid (R3 c b w h); have Q33 := fun c b w h => Lib.hid (R33 c b w h); have Q4 := fun c b w h => Lib.hid (R4 c b w h)
    clear R3 R33 R4 va vb ga gb gt hb2 ha2 t2 z2 t20 t2y hz0
    go_enter Try.func7, Try.ntmps7
    go_wp2_with fail
    refine (new_any _).mono ?_
    rintro e w1 ⟨c, d, rfl, h1, hc, hd, hb1⟩
    have HB1 := Lib.hid hb1
    have q1 := Q1 c d w1 h1
    clear hb1 h1
    go_wp2_with fail
    refine q1.out.mono ?_
    rintro e w2 ⟨rfl, h2, hm2⟩
    have HB2 := Lib.hid (Dk.there hc hd HB1.out hm2)
    have q2 := Q2 c d w2 h2
    clear h2 hm2
    go_wp2_with fail
    refine q2.out.mono ?_
    rintro e w3 ⟨rfl, h3, hm3⟩
    have HB3 := Lib.hid (Dk.there hc hd HB2.out hm3)
    have q3 := Q3 c d w3 h3
    clear h3 hm3
    go_wp2_with fail
    refine q3.out.mono ?_
    rintro e w4 ⟨rfl, h4, hm4⟩
    have HB4 := Lib.hid (Dk.there hc hd HB3.out hm4)
    have q4 := Q33 c d w4 h4
    clear h4 hm4
    go_wp2_with fail
    refine q4.out.mono ?_
    rintro e w6 ⟨rfl, h6, hm6⟩
    have HB6 := Lib.hid (Dk.there hc hd HB4.out hm6)
    have q6 := Q4 c d w6 h6
    clear h6 hm6
    go_wp2_with fail
    refine q6.out.mono ?_
    rintro e w7 ⟨rfl, h7, hm7⟩
    have HB7 := Lib.hid (Dk.there hc hd HB6.out hm7)
    have HK7 := Lib.hid h7
    have q7 := Q5 _ (by decide) (by decide) c d w7 h7
    clear h7 hm7
    go_wp2_with fail
    refine q7.out.mono ?_
    rintro e w8 ⟨rfl, hb8⟩
    have h8 := HK7.out.below hb8 HK7.out.lt HK7.out.ltb
    have HB8 := Lib.hid (HB7.out.trans (hb8.mono HB7.out.size))
    have HK8 := Lib.hid h8
    have q8 := Q6 _ (by decide) (by decide) c d w8 h8
    clear h8 hb8
    go_wp2_with fail
    refine q8.out.mono ?_
    rintro e w9 ⟨rfl, hb9⟩
    have h9 := HK8.out.below hb9 HK8.out.lt HK8.out.ltb
    have HB9 := Lib.hid (HB8.out.trans (hb9.mono HB8.out.size))
    have HK9 := Lib.hid h9
    have q9 := Q7 _ (by decide) (by decide) c d w9 h9
    clear h9 hb9
    go_wp2_with fail
    refine q9.out.mono ?_
    rintro e w10 ⟨A, cp, rfl, hr, hA, hb10⟩
    obtain ⟨ad, rfl, hab10, hcell⟩ := hr.2 Nat.zero_lt_one
    have c0 : w10.cell? ad = some (.string b) := by have h := hcell 0 _ rfl; rw [show ad.add 0 = ad from by unfold Addr.add; rfl] at h; exact h
    have h10 := HK9.out.below hb10 HK9.out.lt HK9.out.ltb
    have HB10 := Lib.hid (HB9.out.trans (hb10.mono HB9.out.size))
    have HK10 := Lib.hid h10
    clear hr hA hb10 h10 hcell
    go_wp2_with fail
    refine (alive5_any _).mono ?_
    rintro e w11 ⟨rfl, hb11⟩
    have h11 := HK10.out.below hb11 HK10.out.lt HK10.out.ltb
    have HB11 := Lib.hid (HB10.out.trans (hb11.mono HB10.out.size))
    have c1 : w11.cell? ad = some (.string b) := (hb11.cell hab10).trans c0
    have q11 := Q8 _ (by decide) (by decide) c d w11 h11
    clear h11 hb11 c0
    go_wp2_with fail
    refine q11.out.mono ?_
    rintro e w12 ⟨rfl, h12, hm12⟩
    have HB12 := Lib.hid (Dk.there hc hd HB11.out hm12)
    have q12 := Q9 _ (upO_range (by decide)).1 (upO_range (by decide)).2 c d w12 h12
    clear h12 hm12
    go_wp2_with fail
    refine q12.out.mono ?_
    rintro e w13 ⟨rfl, h13, hm13⟩
    have HB13 := Lib.hid (Dk.there hc hd HB12.out hm13)
    clear h13 hm13
    go_wp2
    go_ret
    exact ⟨rfl, HB13.out⟩
end Go.Proofs.Ytofnglegdhchnaa
