/-
  SnapWhole, the plain law: what is left of a store when the loop is through, and what is found behind a crash.
  Conditions: short names; rounds below 10^12; what is on the disk fits.
-/
import Derived.Test.YtjhinifmdjlblaaGreatSnD2
import Derived.Test.YtjhinifmdjlblaaGreatSn8
namespace Go.Proofs.YtjhinifmdjlblaaGreat
open Go.RowKit Go.Maps Go.Sort
set_option maxRecDepth 100000

theorem runFrom_tot (dir : ByteArray) (n : Nat) (state : ByteArray) : ∀ (j k : Nat) (st : Dk) (o : Option Wal.Gs), st.Ok → Tot6 st → (runFrom dir n state j k st o).2.1.Ok ∧ Tot6 (runFrom dir n state j k st o).2.1
  | 0, _, _, _, ok, h => ⟨ok, h⟩
  | j + 1, k, st, o, ok, h => by
    have h1 := stepAt_ok dir n state k st o ok h
    unfold runFrom
    split
    · exact runFrom_tot dir n state j (k + 1) _ _ h1.1 h1.2
    · exact h1
theorem nextD_tot {dir : ByteArray} {n : Nat} {state : ByteArray} {st : Dk} (ok : st.Ok) (h : Tot6 st) : Tot6 (nextD dir n state st).2.1 := (runFrom_tot dir n state 8 0 st none ok h).2
theorem commitD_tot (nm y : ByteArray) : ∀ d ∈ commitD nm y, ∀ st : Dk, st.Ok → Tot6 st → (d st).2.Ok ∧ Tot6 (d st).2 := by
  intro d hd st h ht
  unfold commitD at hd
  simp only [List.mem_cons, List.not_mem_nil, or_false] at hd
  rcases hd with rfl | rfl
  · exact ⟨append_ok h _ _, append_tot h ht _ _⟩
  · exact ⟨sync_ok h _, sync_tot h ht _⟩
theorem commitR_tot {nm : ByteArray} {lg : Lg} {st : Dk} {ss : List ByteArray} (ok : st.Ok) (h : Tot6 st) : Tot6 (commitR nm lg st ss).2.2 := by
  have hf := firstD_tot _ (commitD_tot nm (groupB ss)) st ok h
  unfold commitR
  split
  · exact h
  · split
    · exact h
    · split
      · exact h
      · split
        · exact hf
        · exact hf
def dirW : ByteArray := ⟨#[119]⟩
/-- What a store found behind a crash is. -/
structure Found (n : Nat) (base : ByteArray) (G : List (List ByteArray)) : Prop where
  nm : Names dirW n
  bs : base.size ≤ 150000
  zero : n = 0 → base = ⟨#[]⟩
  fit : ∀ ss ∈ G, FitG ss
  len : G.flatten.length ≤ 1000000
  fsz : (fileOf G).size ≤ 100000
/-- What is left when the loop is through: behind every crash there is the one state, or the other. -/
def LeftS (b0 : ByteArray) (s0 : Bool) (r0 : List ByteArray) (b1 : ByteArray) (s1 : Bool) (r1 : List ByteArray) (st : Dk) : Prop :=
  st.Ok ∧ ∀ keep : List Int, ∃ n base G fs m, On1 (restoreD (crashD st keep)) fs ∧ Files fs m ∧ Opn dirW n base G fs m ∧ totF fs ≤ 100000000 ∧ Found n base G ∧ ((base = b0 ∧ decide (n ≠ 0) = s0 ∧ G.flatten = r0) ∨ (base = b1 ∧ decide (n ≠ 0) = s1 ∧ G.flatten = r1))
theorem crash_tot {st : Dk} {fs : DataW Unit} {keep : List Int} (ok : st.Ok) (h : Tot6 st) (ho : On1 (restoreD (crashD st keep)) fs) : totF fs ≤ 100000000 := by
  have h1 : totF (restoreD (crashD st keep)).fs ≤ totF st.fs := by
    have := (crash_ok (keep := keep) ok.good (l := lstS st.fs) (fun s hs => (mem_lstS ok.good.keys s).1 hs) (lstS st.fs).length).2.2.2
    exact this
  rw [ho.fs_] at h1
  unfold Tot6 at h
  omega
section
variable {st : Dk} {fs : DataW Unit} {n : Nat} {base state : ByteArray} {G : List (List ByteArray)} {ss : List ByteArray}
theorem left_quiet (ok : st.Ok) (ht : Tot6 st) (hfs : st.fs = fs) (hF : Files fs (qm dirW n base G)) (hg : Found n base G) (b1 : ByteArray) (s1 : Bool) (r1 : List ByteArray) : LeftS base (decide (n ≠ 0)) G.flatten b1 s1 r1 st := by
  refine ⟨ok, fun keep => ?_⟩
  obtain ⟨fs', h1, h2⟩ := crash_quiet keep ok hfs hF
  exact ⟨n, base, G, fs', _, h1, h2, opn_quiet hg.nm h2 hg.zero hg.bs hg.fit, crash_tot ok ht h1, hg, .inl ⟨rfl, rfl, rfl⟩⟩
theorem left_commit (ok : st.Ok) (ht : Tot6 st) (hfs : st.fs = fs) (hF : Files fs ((qm dirW n base G).set (lgB dirW n) (some (fileOf G ++ groupB ss, ((fileOf G).size : Int))))) (hg : Found n base G) (hs : FitG ss) (hd : (fileOf G).size + (groupB ss).size ≤ 90000) (hl : G.flatten.length + ss.length ≤ 1000000) :
    LeftS base (decide (n ≠ 0)) G.flatten base (decide (n ≠ 0)) (G.flatten ++ ss) st := by
  refine ⟨ok, fun keep => ?_⟩
  obtain ⟨fs', m', G', h1, h2, hG', h3⟩ := crash_commit hg.nm keep ok hfs hF hg.zero hg.bs hg.fit hs hd
  refine ⟨n, base, G', fs', m', h1, h2, h3, crash_tot ok ht h1, ?_, ?_⟩
  · rcases hG' with rfl | rfl
    · exact hg
    · refine ⟨hg.nm, hg.bs, hg.zero, fun s h => ?_, by simp; simpa using hl, by rw [fileOf_snoc, size_app']; omega⟩
      rcases List.mem_append.1 h with h | h
      · exact hg.fit s h
      · obtain rfl : s = ss := by simpa using h
        exact hs
  · rcases hG' with rfl | rfl
    · exact .inl ⟨rfl, rfl, rfl⟩
    · exact .inr ⟨rfl, rfl, by simp⟩
theorem left_save (ok : st.Ok) (ht : Tot6 st) (hfs : st.fs = fs) (h : CrA dirW n base G fs ∨ CrB dirW n base G state fs) (hg : Found n base G) (hN : Names dirW (n + 1)) (hs : state.size ≤ 150000) : LeftS base (decide (n ≠ 0)) G.flatten state true [] st := by
  refine ⟨ok, fun keep => ?_⟩
  rcases h with h | h
  · obtain ⟨fs', m', h1, h2, h3⟩ := crash_A hg.nm keep ok hfs h hg.zero hg.bs hg.fit
    exact ⟨n, base, G, fs', m', h1, h2, h3, crash_tot ok ht h1, hg, .inl ⟨rfl, rfl, rfl⟩⟩
  · obtain ⟨fs', m', h1, h2, h3⟩ := crash_B hN keep ok hfs h hs
    exact ⟨n + 1, state, [], fs', m', h1, h2, h3, crash_tot ok ht h1, ⟨hN, hs, fun e => by omega, by simp, by simp, by decide⟩, .inr ⟨rfl, by simp, rfl⟩⟩
end
end Go.Proofs.YtjhinifmdjlblaaGreat
