/-
  The plain law of WireCuts: what a reader tells of numbers that were laid and cut.
  Conditions: ints.
-/
import Derived.Test.YtfjdcmhhnknojaaWire7
namespace Go.Proofs.Ytfjdcmhhnknojaa
open Go.RowKit

theorem cut_num {l : List Int} {k : Nat} {v : Int} (hv1 : -9223372036854775808 ≤ v) (hv2 : v ≤ 9223372036854775807) (hk : l[k]? = some v) {cut : Nat}
    (hP : (Wire.wNums [] (l.take k)).length ≤ cut) :
    (rdNum ⟨((Wire.wNums [] l).take cut).toArray⟩ ⟨0, (Wire.wNums [] (l.take k)).length⟩ = (0, ⟨5, (Wire.wNums [] (l.take k)).length⟩) ∧ cut < (Wire.wNums [] l).length) ∨
    (rdNum ⟨((Wire.wNums [] l).take cut).toArray⟩ ⟨0, (Wire.wNums [] (l.take k)).length⟩ = (v, ⟨0, (Wire.wNums [] (l.take (k + 1))).length⟩) ∧ (Wire.wNums [] (l.take (k + 1))).length ≤ cut) := by
  have hspl : ∃ rest, Wire.wNums [] l = Wire.wNums [] (l.take k) ++ (Wire.enc (Wire.zz v) ++ rest) ∧ Wire.wNums [] (l.take (k + 1)) = Wire.wNums [] (l.take k) ++ Wire.enc (Wire.zz v) := by
    have h1 : l = l.take k ++ v :: l.drop (k + 1) := by rw [← drop_cons hk, List.take_append_drop]
    refine ⟨((l.drop (k + 1)).map (fun v => Wire.enc (Wire.zz v))).flatten, ?_, ?_⟩
    · conv => lhs; rw [h1]
      simp [Wire.wNums_eq]
    · rw [take_snoc hk]; simp [Wire.wNums_eq]
  obtain ⟨rest, h1, h2⟩ := hspl
  have hz : Wire.zz v < 18446744073709551616 := Wire.zz_lt hv1 hv2
  generalize Wire.wNums [] (l.take k) = pre at *
  rw [h1, h2]
  have hdrop : ((⟨((pre ++ (Wire.enc (Wire.zz v) ++ rest)).take cut).toArray⟩ : ByteArray).data.toList).drop pre.length = (Wire.enc (Wire.zz v) ++ rest).take (cut - pre.length) := by
    simp only [List.take_append, List.drop_append]
    rw [List.take_of_length_le hP]
    simp
  by_cases hs : cut - pre.length < (Wire.enc (Wire.zz v)).length
  · left
    have hd : Wire.dec 0 0 ((Wire.enc (Wire.zz v) ++ rest).take (cut - pre.length)) = .error 5 := by
      rw [List.take_append_of_le_length (by omega)]; exact Wire.dec_cut0 _ _ hs
    rw [← hdrop] at hd
    have hn := numTells_err hd
    refine ⟨?_, by simp; omega⟩
    unfold rdNum
    rw [hn]; simp
  · right
    have hd : Wire.dec 0 0 ((Wire.enc (Wire.zz v) ++ rest).take (cut - pre.length)) = .ok (Wire.zz v, (Wire.enc (Wire.zz v)).length) := by
      rw [List.take_append]
      rw [List.take_of_length_le (by omega)]
      exact Wire.dec_enc0 hz _
    rw [← hdrop] at hd
    have hn := numTells_ok hd
    refine ⟨?_, by simp; omega⟩
    unfold rdNum
    rw [hn]
    simp [Wire.unzz_zz]
end Go.Proofs.Ytfjdcmhhnknojaa
