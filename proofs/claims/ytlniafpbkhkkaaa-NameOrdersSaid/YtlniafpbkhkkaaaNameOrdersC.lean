/-
  NameOrders: the walk, whatever the texts.
  Conditions: texts, texts in a list that the call reads.
-/
import Derived.Test.YtlniafpbkhkkaaaNameOrdersA
import Derived.Test.YtlniafpbkhkkaaaNameOrdersB
namespace Go.Proofs.Ytlniafpbkhkkaaa
open Go.RowKit Go.Maps Go.Sort

set_option maxHeartbeats 1000000 in
theorem norders_walk (a b c : ByteArray) (l : List ByteArray) (A : Option Addr) (cp : Nat) (w : World) (hr : Reads w w.heap.size 1 A l.length (strs l)) (hcp : l.length ≤ cp) (hl : l.length ≤ 9223372036854775807) (hs : ∀ s ∈ l, s.size ≤ 9223372036854775807) :
    Calls Try.prog 3 #[.string a, .string b, .string c, .slice A l.length cp] w fun e w' => e = .returned (.bool true) ∧ Below w.heap.size w w' := by
  by_cases ha : 3000 < a.size
  · generalize l.length = n at *
    clear hr hs
    go_enter Try.func3, Try.ntmps3
    go_wp2_with fail
    refine (alive2_any _).mono ?_
    rintro e w2 ⟨rfl, hb2⟩
    have HB2 := Lib.hid hb2
    clear hb2
    go_wp2
    go_ret
    exact ⟨rfl, HB2.out⟩
  by_cases hb : 3000 < b.size
  · generalize l.length = n at *
    clear hr hs
    go_enter Try.func3, Try.ntmps3
    go_wp2_with fail
    refine (alive2_any _).mono ?_
    rintro e w2 ⟨rfl, hb2⟩
    have HB2 := Lib.hid hb2
    clear hb2
    go_wp2
    go_ret
    exact ⟨rfl, HB2.out⟩
  by_cases hc : 3000 < c.size
  · generalize l.length = n at *
    clear hr hs
    go_enter Try.func3, Try.ntmps3
    go_wp2_with fail
    refine (alive2_any _).mono ?_
    rintro e w2 ⟨rfl, hb2⟩
    have HB2 := Lib.hid hb2
    clear hb2
    go_wp2
    go_ret
    exact ⟨rfl, HB2.out⟩
  cases hsh : shortB 300 9000 l
  · have h1 := short2_any l A cp w hr hl hs
    rw [hsh] at h1
    have H1 := Lib.hid h1
    clear h1 hr hs hsh
    generalize l.length = n at *
    go_enter Try.func3, Try.ntmps3
    go_wp2_with fail
    refine H1.out.mono ?_
    rintro e w1 ⟨rfl, hb1⟩
    have HB1 := Lib.hid hb1
    clear hb1
    go_wp2_with fail
    refine (alive2_any _).mono ?_
    rintro e w2 ⟨rfl, hb2⟩
    have HB2 := Lib.hid (HB1.out.trans (hb2.mono HB1.out.size))
    clear hb2
    go_wp2
    go_ret
    exact ⟨rfl, HB2.out⟩
  · by_cases hck : cp = l.length / 2
    · exact norders_none a b c l A l.length cp (l.length / 2) w rfl hr hcp (by omega) (by omega) (by omega) hsh (by omega) hck
    · exact norders_more a b c l A l.length cp (l.length / 2) w rfl hr hcp (by omega) (by omega) (by omega) hsh (by omega) hck
end Go.Proofs.Ytlniafpbkhkkaaa
