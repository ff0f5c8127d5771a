/-
  Terms and instructions as a reader finds them, with every error; the readers' steps.
  Conditions: readers that the call has made.
-/
import Derived.Test.YtkcecijepbceiaaRr2
import Derived.Test.YtkcecijepbceiaaInstRec
namespace Go.Proofs.Ytkcecijepbceiaa
open Go.RowKit

def Trm.zero : Trm := ⟨⟨#[]⟩, ⟨#[]⟩, ⟨#[]⟩, ⟨#[]⟩, false, ⟨#[]⟩, ⟨#[]⟩, ⟨#[]⟩, 0, 0, 0, 0⟩
def Ins.zero : Ins := ⟨0, Trm.zero, 0, false, false, false, 0, 0, 0, 0⟩
/-- A term as it is read, ahead of the test of the error; and behind it. -/
def rdTrm1 (s : ByteArray) (r0 : Rd) : Trm × Rd :=
  let a1 := rdText s r0
  let a2 := rdText s a1.2
  let a3 := rdText s a2.2
  let a4 := rdText s a3.2
  let a5 := rdText s a4.2
  let a6 := rdText s a5.2
  let a7 := rdText s a6.2
  let b := rdBool s a7.2
  let n1 := rdNum s b.2
  let n2 := rdNum s n1.2
  let n3 := rdNum s n2.2
  let n4 := rdNum s n3.2
  (⟨a1.1, a2.1, a3.1, a4.1, b.1, a5.1, a6.1, a7.1, n1.1, n2.1, n3.1, n4.1⟩, n4.2)
def rdTrm (s : ByteArray) (r0 : Rd) : Trm × Rd := if (rdTrm1 s r0).2.e ≠ 0 then (Trm.zero, (rdTrm1 s r0).2) else rdTrm1 s r0
/-- An instruction as it is read. -/
def rdIns1 (s : ByteArray) (r0 : Rd) : Ins × Rd :=
  let i := rdNum s r0
  let t := rdTrm s i.2
  let p := rdNum s t.2
  let b1 := rdBool s p.2
  let b2 := rdBool s b1.2
  let b3 := rdBool s b2.2
  let n1 := rdNum s b3.2
  let n2 := rdNum s n1.2
  let n3 := rdNum s n2.2
  let n4 := rdNum s n3.2
  (⟨i.1, t.1, p.1, b1.1, b2.1, b3.1, n1.1, n2.1, n3.1, n4.1⟩, n4.2)
def rdIns (s : ByteArray) (r0 : Rd) : Ins × Rd := if (rdIns1 s r0).2.e ≠ 0 then (Ins.zero, (rdIns1 s r0).2) else rdIns1 s r0
theorem rdTrm_k {s : ByteArray} {r : Rd} (h : r.k ≤ s.size) : (rdTrm s r).2.k ≤ s.size := by
  have e : (rdTrm s r).2 = (rdTrm1 s r).2 := by unfold rdTrm; split <;> rfl
  rw [e]
  exact rdNum_k (rdNum_k (rdNum_k (rdNum_k (rdBool_k (rdText_k (rdText_k (rdText_k (rdText_k (rdText_k (rdText_k (rdText_k h)))))))))))
theorem rdIns_k {s : ByteArray} {r : Rd} (h : r.k ≤ s.size) : (rdIns s r).2.k ≤ s.size := by
  have e : (rdIns s r).2 = (rdIns1 s r).2 := by unfold rdIns; split <;> rfl
  rw [e]
  exact rdNum_k (rdNum_k (rdNum_k (rdNum_k (rdBool_k (rdBool_k (rdBool_k (rdNum_k (rdTrm_k (rdNum_k h)))))))))
section
variable (g : Nat) (s : ByteArray) {r r' : Rd}
theorem gText_any {t : ByteArray} (hq : rdText s r = (t, r')) (hk : r.k ≤ s.size) (hs : s.size ≤ 1000000000) (w : World) (h : RdAt g r.e s r.k w) :
    Calls Try.prog 50 #[.pointer (some ⟨g, 0, none⟩)] w fun x w' => x = .returned (.string t) ∧ RdAt g r'.e s r'.k w' ∧ Mv [g] [g] w w' := by
  have := rText_any g s r w h hk hs
  rw [hq] at this
  exact this
theorem gNum_any {v : Int} (hq : rdNum s r = (v, r')) (hk : r.k ≤ s.size) (hs : s.size ≤ 1000000000) (w : World) (h : RdAt g r.e s r.k w) :
    Calls Try.prog 45 #[.pointer (some ⟨g, 0, none⟩)] w fun x w' => x = .returned (.int .i64 v) ∧ RdAt g r'.e s r'.k w' ∧ Mv [g] [g] w w' := by
  have := rNum_any g s r w h hk hs
  rw [hq] at this
  exact this
theorem gBool_any {v : Bool} (hq : rdBool s r = (v, r')) (hk : r.k ≤ s.size) (hs : s.size ≤ 1000000000) (w : World) (h : RdAt g r.e s r.k w) :
    Calls Try.prog 46 #[.pointer (some ⟨g, 0, none⟩)] w fun x w' => x = .returned (.bool v) ∧ RdAt g r'.e s r'.k w' ∧ Mv [g] [g] w w' := by
  have := rBool_any g s r w h hk hs
  rw [hq] at this
  exact this
theorem cText_any {t : ByteArray} (hq : rdText s r = (t, r')) (hk : r.k ≤ s.size) (hs : s.size ≤ 1000000000) (w : World) (h : RcAt g s r w) :
    Calls Try.prog 51 #[.pointer (some ⟨g, 0, none⟩)] w fun x w' => x = .returned (.string t) ∧ RcAt g s r' w' ∧ Mv [g] [g] w w' := by
  have := rcText_any g s r w h hk hs
  rw [hq] at this
  exact this
theorem cNum_any {v : Int} (hq : rdNum s r = (v, r')) (hs : s.size ≤ 1000000000) (w : World) (h : RcAt g s r w) :
    Calls Try.prog 48 #[.pointer (some ⟨g, 0, none⟩)] w fun x w' => x = .returned (.int .i64 v) ∧ RcAt g s r' w' ∧ Mv [g] [g] w w' := by
  have := rcNum_any g s r w h hs
  rw [hq] at this
  exact this
theorem cBool_any {v : Bool} (hq : rdBool s r = (v, r')) (hk : r.k ≤ s.size) (hs : s.size ≤ 1000000000) (w : World) (h : RcAt g s r w) :
    Calls Try.prog 49 #[.pointer (some ⟨g, 0, none⟩)] w fun x w' => x = .returned (.bool v) ∧ RcAt g s r' w' ∧ Mv [g] [g] w w' := by
  have := rcBool_any g s r w h hk hs
  rw [hq] at this
  exact this
end
end Go.Proofs.Ytkcecijepbceiaa
