/-
  What is wrong with a term, in plain words; the small world of chapter 12.
  Conditions: none.
-/
import Derived.Test.YtkcecijepbceiaaRef5
import Derived.Test.YtkcecijepbceiaaR8Plain
import Derived.Test.YtkcecijepbceiaaTrm12
namespace Go.Proofs.Ytkcecijepbceiaa
open Go.RowKit Go.Maps Go.Shelf

def chkP (st : Rf) (t : Trm) : Int :=
  if hasS st.p t.p = false then 7 else if hasS st.a t.a = false then 7 else if hasS st.a t.m = false then 7 else if hasS st.p t.o = false then 7
  else if (recAt Account st.a t.a).party ≠ t.p then 22 else if (recAt Account st.a t.m).party ≠ t.p then 22
  else if t.o = t.p then 1 else if t.o = bankS then 1 else if t.p = bankS then 1 else 0
def chkG (st : Rf) (t : Trm) : Int :=
  if hasS st.s t.s = false then 7 else if hasS st.s t.c = false then 7
  else if (recAt Asset st.s t.s).cash = true then 1 else if (recAt Asset st.s t.c).cash = false then 1
  else if t.q < (recAt Asset st.s t.s).least then 33 else if 1099511627776 < t.q then 33 else if t.q % (recAt Asset st.s t.s).unit ≠ 0 then 33
  else if t.am < 0 then 1 else if 1125899906842624 < t.am then 1 else 0
def chkC (st : Rf) (t : Trm) (today : Int) : Int :=
  if chkP st t ≠ 0 then chkP st t else if chkG st t ≠ 0 then chkG st t
  else if t.dy < today then 17 else if isB st.h t.dy = false then 17 else if t.td < 0 then 17 else if t.dy < t.td then 17 else if 20 < t.r.size then 2 else 0

/-- Each record of a map is right. -/
def AllR (α : Type) [Kd α] (D : DataW Unit) (Q : α → Prop) : Prop := ∀ s, hasS D s = true → Q (recAt α D s)
theorem AllR.put {α : Type} [Kd α] {D : DataW Unit} {Q : α → Prop} (h : AllR α D Q) (hg : GoodR α D) {x : α} (hx : Q x) : AllR α (putR D (Kd.key x) x) Q := fun s hs => by
  by_cases e : s = Kd.key x
  · subst e
    rw [recAt_put_same hg]
    exact hx
  · rw [recAt_put_other e]
    rcases (hasR_put hg _ _ _).1 hs with h1 | h1
    · exact absurd h1 e
    · exact h s h1
theorem AllR.go {α : Type} [Kd α] {valid : ByteArray → Bool} {most : Nat} {ahead behind : α → Int} {Q : α → Prop} (hQ : ∀ x, behind x = 0 → Q x) (l : List α) : ∀ {st : Int × DataW Unit}, GoodR α st.2 ∧ Maps.size st.2 ≤ most → AllR α st.2 Q → AllR α (l.foldl (stepR valid most ahead behind) st).2 Q := by
  induction l with
  | nil => intro st _ h; exact h
  | cons x l ih =>
    intro st hg h
    rw [List.foldl_cons]
    refine ih (stepR_good hg x) ?_
    unfold stepR
    by_cases h0 : st.1 ≠ 0
    · rw [if_pos h0]; exact h
    · rw [if_neg h0]
      by_cases h1 : errR valid most ahead behind st.2 x = 0
      · simp only [h1, if_true]
        refine h.put hg.1 (hQ x ?_)
        unfold errR at h1
        by_cases hb : behind x = 0
        · exact hb
        · exfalso
          split at h1
          · cases h1
          · split at h1
            · exact absurd h1 (by assumption)
            · split at h1
              · cases h1
              · first | exact hb h1 | (split at h1 <;> first | exact hb h1 | exact absurd hb (by assumption) | exact absurd h1 (by assumption))
      · simp only [if_neg h1]; exact h
theorem AllR.out {α : Type} [Kd α] {valid : ByteArray → Bool} {most : Nat} {ahead behind : α → Int} {Q : α → Prop} {D : DataW Unit} (hQ : ∀ x, behind x = 0 → Q x) (l : List α) (hg : GoodR α D ∧ Maps.size D ≤ most) (h : AllR α D Q) : AllR α (outR valid most ahead behind D l) Q := by
  unfold outR
  split
  · exact AllR.go hQ l hg h
  · exact h
/-- What a security's numbers are. -/
def UnitOk (x : Asset) : Prop := 1 ≤ x.unit ∧ x.unit ≤ 1099511627776 ∧ 1 ≤ x.least ∧ x.least ≤ 1099511627776
theorem unit_of_can {x : Asset} (h : canI x = 0) : UnitOk x := by
  have hc : canS x = true := by
    cases hc : canS x
    · unfold canI rightI at h
      rw [hc] at h
      cases h
    · rfl
  unfold canS at hc
  simp only [Bool.and_eq_true] at hc
  have h1 := inB_yes.1 hc.1
  have h2 := inB_yes.1 hc.2.1
  exact ⟨h1.1, h1.2, h2.1, h2.2⟩

/-! ### the small world -/
def pl0 : List Party := [⟨⟨#[80]⟩, 1000⟩, ⟨⟨#[81]⟩, 100⟩, ⟨⟨#[82]⟩, 0⟩]
def ac0 : List Account := [⟨⟨#[80, 65]⟩, ⟨#[80]⟩⟩, ⟨⟨#[80, 66]⟩, ⟨#[80]⟩⟩, ⟨⟨#[81, 65]⟩, ⟨#[81]⟩⟩, ⟨⟨#[81, 66]⟩, ⟨#[81]⟩⟩, ⟨⟨#[82, 65]⟩, ⟨#[82]⟩⟩, ⟨⟨#[82, 66]⟩, ⟨#[82]⟩⟩]
def as0 : List Asset := [⟨⟨#[88]⟩, false, true, 1, 1, 10, 1000, 0⟩, ⟨⟨#[89]⟩, false, true, 10, 20, 3, 5000, 0⟩, ⟨⟨#[90]⟩, false, false, 5, 10, 7, 0, 0⟩, ⟨⟨#[69, 85, 82]⟩, true, false, 1, 1, 0, 0, 2⟩, ⟨⟨#[85, 83, 68]⟩, true, false, 1, 1, 0, 0, 0⟩]
def sw1 : Rf := addP rf0 pl0
def sw2 : Rf := addC sw1 ac0
def sw3 : Rf := addS' sw2 as0
theorem sw1_ok : sw1.Ok := addP_ok rf0_ok _
theorem sw2_ok : sw2.Ok := addC_ok sw1_ok _
theorem sw3_ok : sw3.Ok := addS_ok sw2_ok _
theorem sw_e1 : errP rf0 pl0 = 0 := by decide +kernel
theorem sw_e2 : errC sw1 ac0 = 0 := by decide +kernel
theorem sw_e3 : errS sw2 as0 = 0 := by decide +kernel
theorem sw_ne : Maps.size sw3.s ≠ 0 := by decide +kernel
theorem sw_unit : AllR Asset sw3.s UnitOk := AllR.out (valid := validS) (most := 12) (ahead := fun _ => 0) (behind := canI) (Q := UnitOk) (D := sw2.s) (fun _ h => unit_of_can h) as0 ⟨sw2_ok.gs, sw2_ok.ns⟩ (fun s hs => by
  have : hasS sw2.s s = false := rfl
  rw [this] at hs
  cases hs)
def p8 : List Party := out8 validS 20 (fun _ => 0) limP [⟨bankS, 0⟩] pl0
def a8 : List Account := out8 validS 20 (noParty sw1) (fun _ => 0) [⟨bankS, bankS⟩] ac0
def s8 : List Asset := out8 validS 12 (fun _ => 0) canI [] as0
theorem same_one {α : Type} [Kd α] (x : α) : SameK (putR (.map []) (Kd.key x) x) [x] := SameK.put (P := []) SameK.none_ (by simp [hasS, Maps.has])
theorem p8_same : SameK sw3.p p8 := SameK.out (valid := validS) (most := 20) (ahead := fun _ => 0) (behind := limP) (same_one (⟨bankS, 0⟩ : Party)) pl0
theorem a8_same : SameK sw3.a a8 := SameK.out (valid := validS) (most := 20) (ahead := noParty sw1) (behind := fun _ => 0) (same_one (⟨bankS, bankS⟩ : Account)) ac0
theorem s8_same : SameK sw3.s s8 := SameK.out (valid := validS) (most := 12) (ahead := fun _ => 0) (behind := canI) SameK.none_ as0
end Go.Proofs.Ytkcecijepbceiaa
