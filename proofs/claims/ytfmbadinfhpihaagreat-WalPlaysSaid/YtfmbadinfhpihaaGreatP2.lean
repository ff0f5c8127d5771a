/-
  WalPlays: the program's disk and log, the document's disk and log, and the book beside each other; what each call does to them.
  Conditions: each lemma's own premises.
-/
import Derived.Test.YtfmbadinfhpihaaGreatP1
import Derived.Test.YtfmbadinfhpihaaGreatWalC
import Derived.Test.YtfmbadinfhpihaaGreatBk8
import Derived.Test.YtfmbadinfhpihaaGreatLentT
set_option linter.unusedVariables false
set_option linter.unusedSimpArgs false
namespace Go.Proofs.YtfmbadinfhpihaaGreat
open Go.RowKit Go.Maps
set_option maxRecDepth 100000

/-- What is moved stays off what is not. -/
theorem off_moved {M M' F O : List Nat} {w w' : World} (hm : Mv M M' w w') (hF : ∀ k ∈ F, k ∈ M') (hO : ∀ k ∈ M, k ∉ O) (hlt : ∀ k ∈ O, k < w.heap.size) : ∀ k ∈ F, k ∉ O := fun k hk hO' => (hm.link k (hF k hk)).elim (fun h => hO k h hO') (fun h => by have := hlt k hO'; omega)
theorem off_new {F O : List Nat} {B : Nat} (hF : ∀ k ∈ F, B ≤ k) (hlt : ∀ k ∈ O, k < B) : ∀ k ∈ F, k ∉ O := fun k hk hO' => by have := hlt k hO'; have := hF k hk; omega
theorem off_symm {A B : List Nat} (h : ∀ k ∈ A, k ∉ B) : ∀ k ∈ B, k ∉ A := fun k hk h' => h k h' hk
theorem off_app {A B C : List Nat} (h : ∀ k ∈ A, k ∉ C) (h' : ∀ k ∈ B, k ∉ C) : ∀ k ∈ A ++ B, k ∉ C := fun k hk => (List.mem_append.1 hk).elim (h k) (h' k)
/-- Footprints that share nothing. -/
structure Sp (D S T Y K Z : List Nat) : Prop where
  ds : ∀ k ∈ D, k ∉ S
  dt : ∀ k ∈ D, k ∉ T
  dy : ∀ k ∈ D, k ∉ Y
  dk : ∀ k ∈ D, k ∉ K
  dz : ∀ k ∈ D, k ∉ Z
  st : ∀ k ∈ S, k ∉ T
  sy : ∀ k ∈ S, k ∉ Y
  sk : ∀ k ∈ S, k ∉ K
  sz : ∀ k ∈ S, k ∉ Z
  ty : ∀ k ∈ T, k ∉ Y
  tk : ∀ k ∈ T, k ∉ K
  tz : ∀ k ∈ T, k ∉ Z
  yk : ∀ k ∈ Y, k ∉ K
  yz : ∀ k ∈ Y, k ∉ Z
  kz : ∀ k ∈ K, k ∉ Z
section
variable {D S T Y K Z : List Nat} {w w' : World}
theorem Sp.moveS (h : Sp D S T Y K Z) {S' : List Nat} (hm : Mv S S' w w') (hd : ∀ k ∈ D, k < w.heap.size) (ht : ∀ k ∈ T, k < w.heap.size) (hy : ∀ k ∈ Y, k < w.heap.size) (hk : ∀ k ∈ K, k < w.heap.size) (hz : ∀ k ∈ Z, k < w.heap.size) : Sp D S' T Y K Z :=
  ⟨off_symm (off_moved hm (fun _ h => h) (off_symm h.ds) hd), h.dt, h.dy, h.dk, h.dz, off_moved hm (fun _ h => h) h.st ht, off_moved hm (fun _ h => h) h.sy hy, off_moved hm (fun _ h => h) h.sk hk, off_moved hm (fun _ h => h) h.sz hz, h.ty, h.tk, h.tz, h.yk, h.yz, h.kz⟩
theorem Sp.moveT (h : Sp D S T Y K Z) {T' : List Nat} (hm : Mv (D ++ T) (D ++ T') w w') (hdt : ∀ k ∈ D, k ∉ T') (hs : ∀ k ∈ S, k < w.heap.size) (hy : ∀ k ∈ Y, k < w.heap.size) (hk : ∀ k ∈ K, k < w.heap.size) (hz : ∀ k ∈ Z, k < w.heap.size) : Sp D S T' Y K Z :=
  ⟨h.ds, hdt, h.dy, h.dk, h.dz, off_symm (off_moved hm (fun _ h => List.mem_append.2 (.inr h)) (off_app h.ds (off_symm h.st)) hs), h.sy, h.sk, h.sz, off_moved hm (fun _ h => List.mem_append.2 (.inr h)) (off_app h.dy h.ty) hy, off_moved hm (fun _ h => List.mem_append.2 (.inr h)) (off_app h.dk h.tk) hk, off_moved hm (fun _ h => List.mem_append.2 (.inr h)) (off_app h.dz h.tz) hz, h.yk, h.yz, h.kz⟩
theorem Sp.moveY (h : Sp D S T Y K Z) {S' Y' : List Nat} (hm : Mv (Y ++ S) (Y' ++ S') w w') (hsy : ∀ k ∈ S', k ∉ Y') (hd : ∀ k ∈ D, k < w.heap.size) (ht : ∀ k ∈ T, k < w.heap.size) (hk : ∀ k ∈ K, k < w.heap.size) (hz : ∀ k ∈ Z, k < w.heap.size) : Sp D S' T Y' K Z :=
  ⟨off_symm (off_moved hm (fun _ h => List.mem_append.2 (.inr h)) (off_app (off_symm h.dy) (off_symm h.ds)) hd), h.dt, off_symm (off_moved hm (fun _ h => List.mem_append.2 (.inl h)) (off_app (off_symm h.dy) (off_symm h.ds)) hd), h.dk, h.dz, off_moved hm (fun _ h => List.mem_append.2 (.inr h)) (off_app (off_symm h.ty) h.st) ht, hsy, off_moved hm (fun _ h => List.mem_append.2 (.inr h)) (off_app h.yk h.sk) hk, off_moved hm (fun _ h => List.mem_append.2 (.inr h)) (off_app h.yz h.sz) hz, off_symm (off_moved hm (fun _ h => List.mem_append.2 (.inl h)) (off_app (off_symm h.ty) h.st) ht), h.tk, h.tz, off_moved hm (fun _ h => List.mem_append.2 (.inl h)) (off_app h.yk h.sk) hk, off_moved hm (fun _ h => List.mem_append.2 (.inl h)) (off_app h.yz h.sz) hz, h.kz⟩
theorem Sp.moveK (h : Sp D S T Y K Z) {V K' : List Nat} (hm : Mv (V ++ K) K' w w') (hv : ∀ O, O = D ∨ O = S ∨ O = T ∨ O = Y ∨ O = Z → ∀ k ∈ V, k ∉ O) (hd : ∀ k ∈ D, k < w.heap.size) (hs : ∀ k ∈ S, k < w.heap.size) (ht : ∀ k ∈ T, k < w.heap.size) (hy : ∀ k ∈ Y, k < w.heap.size) (hz : ∀ k ∈ Z, k < w.heap.size) : Sp D S T Y K' Z :=
  ⟨h.ds, h.dt, h.dy, off_symm (off_moved hm (fun _ h => h) (off_app (hv _ (by simp)) (off_symm h.dk)) hd), h.dz, h.st, h.sy, off_symm (off_moved hm (fun _ h => h) (off_app (hv _ (by simp)) (off_symm h.sk)) hs), h.sz, h.ty, off_symm (off_moved hm (fun _ h => h) (off_app (hv _ (by simp)) (off_symm h.tk)) ht), h.tz, off_symm (off_moved hm (fun _ h => h) (off_app (hv _ (by simp)) (off_symm h.yk)) hy), h.yz, off_moved hm (fun _ h => h) (off_app (hv _ (by simp)) h.kz) hz⟩
theorem Sp.moreZ (h : Sp D S T Y K Z) {V : List Nat} {B : Nat} (hv : ∀ k ∈ V, B ≤ k) (hd : ∀ k ∈ D, k < B) (hs : ∀ k ∈ S, k < B) (ht : ∀ k ∈ T, k < B) (hy : ∀ k ∈ Y, k < B) (hk : ∀ k ∈ K, k < B) : Sp D S T Y K (V ++ Z) :=
  ⟨h.ds, h.dt, h.dy, h.dk, off_symm (off_app (off_new hv hd) (off_symm h.dz)), h.st, h.sy, h.sk, off_symm (off_app (off_new hv hs) (off_symm h.sz)), h.ty, h.tk, off_symm (off_app (off_new hv ht) (off_symm h.tz)), h.yk, off_symm (off_app (off_new hv hy) (off_symm h.yz)), off_symm (off_app (off_new hv hk) (off_symm h.kz))⟩
theorem Sp.lessZ (h : Sp D S T Y K Z) {Z' : List Nat} (hv : ∀ k ∈ Z', k ∈ Z) : Sp D S T Y K Z' :=
  ⟨h.ds, h.dt, h.dy, h.dk, off_symm (fun k hk => (off_symm h.dz) k (hv k hk)), h.st, h.sy, h.sk, off_symm (fun k hk => (off_symm h.sz) k (hv k hk)), h.ty, h.tk, off_symm (fun k hk => (off_symm h.tz) k (hv k hk)), h.yk, off_symm (fun k hk => (off_symm h.yz) k (hv k hk)), off_symm (fun k hk => (off_symm h.kz) k (hv k hk))⟩
theorem Sp.drop (h : Sp D S T Y K Z) : Sp D S [] [] K Z := ⟨h.ds, (fun _ _ => List.not_mem_nil), (fun _ _ => List.not_mem_nil), h.dk, h.dz, (fun _ _ => List.not_mem_nil), (fun _ _ => List.not_mem_nil), h.sk, h.sz, (fun _ h => absurd h List.not_mem_nil), (fun _ h => absurd h List.not_mem_nil), (fun _ h => absurd h List.not_mem_nil), (fun _ h => absurd h List.not_mem_nil), (fun _ h => absurd h List.not_mem_nil), h.kz⟩
/-- Two bystanders become the logs'. -/
theorem Sp.join {T' Y' : List Nat} (h : Sp D S [] [] K (Y' ++ (T' ++ Z))) (hyt : ∀ k ∈ Y', k ∉ T') (hyz : ∀ k ∈ Y', k ∉ Z) (htz : ∀ k ∈ T', k ∉ Z) : Sp D S T' Y' K Z := by
  have hy : ∀ k ∈ Y', k ∈ Y' ++ (T' ++ Z) := fun k hk => List.mem_append.2 (.inl hk)
  have ht : ∀ k ∈ T', k ∈ Y' ++ (T' ++ Z) := fun k hk => List.mem_append.2 (.inr (List.mem_append.2 (.inl hk)))
  have hz : ∀ k ∈ Z, k ∈ Y' ++ (T' ++ Z) := fun k hk => List.mem_append.2 (.inr (List.mem_append.2 (.inr hk)))
  exact ⟨h.ds, fun k hk h' => h.dz k hk (ht k h'), fun k hk h' => h.dz k hk (hy k h'), h.dk, fun k hk h' => h.dz k hk (hz k h'), fun k hk h' => h.sz k hk (ht k h'), fun k hk h' => h.sz k hk (hy k h'), h.sk, fun k hk h' => h.sz k hk (hz k h'), off_symm hyt, fun k hk h' => h.kz k h' (ht k hk), htz, fun k hk h' => h.kz k h' (hy k hk), hyz, fun k hk h' => h.kz k hk (hz k h')⟩
end
/-- The logs: none, or the two. -/
def LgsAt (c x : Nat) (nm : ByteArray) (vx vy : Value) (T Y : List Nat) (w : World) : Option (Lg × Lg) → Prop
  | none => vx = .pointer none ∧ vy = .pointer none ∧ T = [] ∧ Y = []
  | some p => ∃ g y, vx = .pointer (some ⟨g, 0, none⟩) ∧ vy = .pointer (some ⟨y, 0, none⟩) ∧ LogAt g c T nm p.1 w ∧ L5At y x Y nm p.2 w
theorem LgsAt.keep {c x : Nat} {nm : ByteArray} {vx vy : Value} {T Y : List Nat} {w w' : World} {lo : Option (Lg × Lg)} (h : LgsAt c x nm vx vy T Y w lo) (hT : ∀ k ∈ T, w'.heap[k]? = w.heap[k]?) (hY : ∀ k ∈ Y, w'.heap[k]? = w.heap[k]?) : LgsAt c x nm vx vy T Y w' lo := by
  cases lo with
  | none => exact h
  | some p =>
    obtain ⟨g, y, h1, h2, h3, h4⟩ := h
    exact ⟨g, y, h1, h2, h3.keep hT, h4.keep hY⟩
theorem LgsAt.there {c x : Nat} {nm : ByteArray} {vx vy : Value} {T Y : List Nat} {w : World} {lo : Option (Lg × Lg)} (h : LgsAt c x nm vx vy T Y w lo) : (∀ k ∈ T, k < w.heap.size) ∧ (∀ k ∈ Y, k < w.heap.size) := by
  cases lo with
  | none => obtain ⟨_, _, rfl, rfl⟩ := h; exact ⟨fun k hk => absurd hk List.not_mem_nil, fun k hk => absurd hk List.not_mem_nil⟩
  | some p =>
    obtain ⟨g, y, h1, h2, h3, h4⟩ := h
    exact ⟨h3.there, h4.there⟩
def rowsOk6 (n : Nat) (L : List Bk.TRow) : Prop := L.length ≤ n ∧ ∀ q ∈ L, q.mm = q.ss ∧ q.ss.length ≤ 10000000
/-- All of it beside each other. -/
structure Wo (B c b x gb : Nat) (Z : List Nat) (nm : ByteArray) (vx vy : Value) (st : Dk) (r : D5) (lo : Option (Lg × Lg)) (n : Nat) (S T Y : List Nat) (tv wv : Value) (L : List Bk.TRow) (w : World) : Prop where
  dk : DkAt c b st w
  d5 : D5At x S r w
  lg : LgsAt c x nm vx vy T Y w lo
  bk : Bk.BkAt gb tv wv L w
  sp : Sp [c, b] S T Y (Bk.bkBlocks gb tv wv L) Z
  zt : ∀ k ∈ Z, k < w.heap.size
  ok : rowsOk6 n L
  up : (∀ k ∈ [c, b], B ≤ k) ∧ (∀ k ∈ S, B ≤ k) ∧ (∀ k ∈ T, B ≤ k) ∧ (∀ k ∈ Y, B ≤ k) ∧ (∀ k ∈ Bk.bkBlocks gb tv wv L, B ≤ k)
  sz : B ≤ w.heap.size
def Wl (B c b x gb : Nat) (Z : List Nat) (nm : ByteArray) (vx vy : Value) (st : Dk) (r : D5) (lo : Option (Lg × Lg)) (n : Nat) (w : World) : Prop := ∃ S T Y tv wv L, Wo B c b x gb Z nm vx vy st r lo n S T Y tv wv L w
/-- What a call leaves: the bystanders, and what lies under all of it. -/
def Kept (B : Nat) (Z : List Nat) (w w' : World) : Prop := (∀ k ∈ Z, w'.heap[k]? = w.heap[k]?) ∧ Below B w w'
section
variable {B c b x gb n : Nat} {Z : List Nat} {nm : ByteArray} {vx vy : Value} {st st' : Dk} {r r' : D5} {lo : Option (Lg × Lg)} {S T Y : List Nat} {tv wv : Value} {L : List Bk.TRow} {w w' : World}
theorem Kept.refl (B : Nat) (Z : List Nat) (w : World) : Kept B Z w w := ⟨fun _ _ => rfl, Below.refl _ _⟩
theorem Kept.trans {w'' : World} (h : Kept B Z w w') (h' : Kept B Z w' w'') : Kept B Z w w'' := ⟨fun k hk => (h'.1 k hk).trans (h.1 k hk), h.2.trans h'.2⟩
theorem Kept.less {Z' : List Nat} (h : Kept B Z w w') (hz : ∀ k ∈ Z', k ∈ Z) : Kept B Z' w w' := ⟨fun k hk => h.1 k (hz k hk), h.2⟩
theorem Wo.dlt (h : Wo B c b x gb Z nm vx vy st r lo n S T Y tv wv L w) : ∀ k ∈ [c, b], k < w.heap.size := fun k hk => by
  simp only [List.mem_cons, List.not_mem_nil, or_false] at hk
  rcases hk with rfl | rfl
  · exact h.dk.lt
  · exact h.dk.ltb
theorem kept_of {M M' : List Nat} (hm : Mv M M' w w') (hB : ∀ k ∈ M, B ≤ k) (hs : B ≤ w.heap.size) (hz : ∀ k ∈ Z, k < w.heap.size) (ho : ∀ k ∈ M, k ∉ Z) : Kept B Z w w' :=
  ⟨fun k hk => hm.block k (hz k hk) (fun h => ho k h hk), hm.below hB hs⟩
theorem Wo.below (h : Wo B c b x gb Z nm vx vy st r lo n S T Y tv wv L w) (hb : Below w.heap.size w w') : Wo B c b x gb Z nm vx vy st r lo n S T Y tv wv L w' ∧ Kept B Z w w' :=
  ⟨⟨h.dk.below hb h.dk.lt h.dk.ltb, h.d5.below hb, h.lg.keep (fun k hk => hb.block k (h.lg.there.1 k hk)) (fun k hk => hb.block k (h.lg.there.2 k hk)), h.bk.below hb, h.sp, fun k hk => Nat.lt_of_lt_of_le (h.zt k hk) hb.size, h.ok, h.up, Nat.le_trans h.sz hb.size⟩, fun k hk => hb.block k (h.zt k hk), hb.mono h.sz⟩
theorem Wo.moveD (h : Wo B c b x gb Z nm vx vy st r lo n S T Y tv wv L w) (hm : Mv [c, b] [c, b] w w') (hd : DkAt c b st' w') : Wo B c b x gb Z nm vx vy st' r lo n S T Y tv wv L w' ∧ Kept B Z w w' :=
  ⟨⟨hd, h.d5.keep (fun k hk => hm.block k (h.d5.there k hk) (off_symm h.sp.ds k hk)), h.lg.keep (fun k hk => hm.block k (h.lg.there.1 k hk) (off_symm h.sp.dt k hk)) (fun k hk => hm.block k (h.lg.there.2 k hk) (off_symm h.sp.dy k hk)), h.bk.keep (fun k hk => hm.block k (h.bk.there k hk) (off_symm h.sp.dk k hk)), h.sp, fun k hk => Nat.lt_of_lt_of_le (h.zt k hk) hm.size, h.ok, h.up, Nat.le_trans h.sz hm.size⟩,
  kept_of hm h.up.1 h.sz h.zt h.sp.dz⟩
theorem up_moved {M M' F : List Nat} (hm : Mv M M' w w') (hF : ∀ k ∈ F, k ∈ M') (hM : ∀ k ∈ M, B ≤ k) (hs : B ≤ w.heap.size) : ∀ k ∈ F, B ≤ k := fun k hk => (hm.link k (hF k hk)).elim (hM k) (fun h => Nat.le_trans hs h)
theorem Wo.moveS {S' : List Nat} (h : Wo B c b x gb Z nm vx vy st r lo n S T Y tv wv L w) (hm : Mv S S' w w') (hd : D5At x S' r' w') : Wo B c b x gb Z nm vx vy st r' lo n S' T Y tv wv L w' ∧ Kept B Z w w' :=
  ⟨⟨h.dk.mv hm (h.sp.ds c (by simp)) (h.sp.ds b (by simp)), hd, h.lg.keep (fun k hk => hm.block k (h.lg.there.1 k hk) (off_symm h.sp.st k hk)) (fun k hk => hm.block k (h.lg.there.2 k hk) (off_symm h.sp.sy k hk)), h.bk.keep (fun k hk => hm.block k (h.bk.there k hk) (off_symm h.sp.sk k hk)), h.sp.moveS hm h.dlt h.lg.there.1 h.lg.there.2 h.bk.there h.zt, fun k hk => Nat.lt_of_lt_of_le (h.zt k hk) hm.size, h.ok, ⟨h.up.1, up_moved hm (fun _ h => h) h.up.2.1 h.sz, h.up.2.2⟩, Nat.le_trans h.sz hm.size⟩,
  kept_of hm h.up.2.1 h.sz h.zt h.sp.sz⟩
theorem Wo.moveK {tv' wv' v : Value} {L' : List Bk.TRow} {n' : Nat} (h : Wo B c b x gb Z nm vx vy st r lo n S T Y tv wv L w) (hm : Mv (v.ownBlock.toList ++ Bk.bkBlocks gb tv wv L) (Bk.bkBlocks gb tv' wv' L') w w') (hb : Bk.BkAt gb tv' wv' L' w') (hv : ∀ O, O = [c, b] ∨ O = S ∨ O = T ∨ O = Y ∨ O = Z → ∀ k ∈ v.ownBlock.toList, k ∉ O) (hB : ∀ k ∈ v.ownBlock.toList, B ≤ k) (hok : rowsOk6 n' L') : Wo B c b x gb Z nm vx vy st r lo n' S T Y tv' wv' L' w' ∧ Kept B Z w w' := by
  have hM : ∀ k ∈ v.ownBlock.toList ++ Bk.bkBlocks gb tv wv L, B ≤ k := fun k hk => (List.mem_append.1 hk).elim (hB k) (h.up.2.2.2.2 k)
  have hoff : ∀ O, (O = [c, b] ∨ O = S ∨ O = T ∨ O = Y ∨ O = Z) → (∀ k ∈ Bk.bkBlocks gb tv wv L, k ∉ O) → ∀ k ∈ O, k ∉ v.ownBlock.toList ++ Bk.bkBlocks gb tv wv L := fun O hO hk => off_symm (off_app (hv O hO) hk)
  exact ⟨⟨h.dk.mv hm (hoff _ (by simp) (off_symm h.sp.dk) c (by simp)) (hoff _ (by simp) (off_symm h.sp.dk) b (by simp)), h.d5.keep (fun k hk => hm.block k (h.d5.there k hk) (hoff _ (by simp) (off_symm h.sp.sk) k hk)),
    h.lg.keep (fun k hk => hm.block k (h.lg.there.1 k hk) (hoff _ (by simp) (off_symm h.sp.tk) k hk)) (fun k hk => hm.block k (h.lg.there.2 k hk) (hoff _ (by simp) (off_symm h.sp.yk) k hk)), hb,
    h.sp.moveK hm hv h.dlt h.d5.there h.lg.there.1 h.lg.there.2 h.zt, fun k hk => Nat.lt_of_lt_of_le (h.zt k hk) hm.size, hok, ⟨h.up.1, h.up.2.1, h.up.2.2.1, h.up.2.2.2.1, up_moved hm (fun _ h => h) hM h.sz⟩, Nat.le_trans h.sz hm.size⟩,
    kept_of hm hM h.sz h.zt (off_app (hv _ (by simp)) h.sp.kz)⟩
/-- More bystanders: what is new. -/
theorem Wo.moreZ {V : List Nat} {w0 : World} (h : Wo B c b x gb Z nm vx vy st r lo n S T Y tv wv L w) (h0 : ∀ k, k ∈ [c, b] ∨ k ∈ S ∨ k ∈ T ∨ k ∈ Y ∨ k ∈ Bk.bkBlocks gb tv wv L → k < w0.heap.size) (hv : ∀ k ∈ V, w0.heap.size ≤ k ∧ k < w.heap.size) : Wo B c b x gb (V ++ Z) nm vx vy st r lo n S T Y tv wv L w :=
  ⟨h.dk, h.d5, h.lg, h.bk, h.sp.moreZ (fun k hk => (hv k hk).1) (fun k hk => h0 k (by simp only [hk, true_or])) (fun k hk => h0 k (by simp only [hk, true_or, or_true])) (fun k hk => h0 k (by simp only [hk, true_or, or_true])) (fun k hk => h0 k (by simp only [hk, true_or, or_true])) (fun k hk => h0 k (by simp only [hk, or_true])), fun k hk => (List.mem_append.1 hk).elim (fun h => (hv k h).2) (h.zt k), h.ok, h.up, h.sz⟩
theorem Wo.all_lt (h : Wo B c b x gb Z nm vx vy st r lo n S T Y tv wv L w) : ∀ k, k ∈ [c, b] ∨ k ∈ S ∨ k ∈ T ∨ k ∈ Y ∨ k ∈ Bk.bkBlocks gb tv wv L → k < w.heap.size := by
  intro k hk
  rcases hk with hk | hk | hk | hk | hk
  · exact h.dlt k hk
  · exact h.d5.there k hk
  · exact h.lg.there.1 k hk
  · exact h.lg.there.2 k hk
  · exact h.bk.there k hk
theorem Wo.lessZ {Z' : List Nat} (h : Wo B c b x gb Z nm vx vy st r lo n S T Y tv wv L w) (hz : ∀ k ∈ Z', k ∈ Z) : Wo B c b x gb Z' nm vx vy st r lo n S T Y tv wv L w :=
  ⟨h.dk, h.d5, h.lg, h.bk, h.sp.lessZ hz, fun k hk => h.zt k (hz k hk), h.ok, h.up, h.sz⟩
/-- The logs forgotten. -/
theorem Wo.drop (h : Wo B c b x gb Z nm vx vy st r lo n S T Y tv wv L w) : Wo B c b x gb Z nm (.pointer none) (.pointer none) st r none n S [] [] tv wv L w :=
  ⟨h.dk, h.d5, ⟨rfl, rfl, rfl, rfl⟩, h.bk, h.sp.drop, h.zt, h.ok, ⟨h.up.1, h.up.2.1, (fun _ h => absurd h List.not_mem_nil), (fun _ h => absurd h List.not_mem_nil), h.up.2.2.2.2⟩, h.sz⟩
theorem Wl.drop (h : Wl B c b x gb Z nm vx vy st r lo n w) : Wl B c b x gb Z nm (.pointer none) (.pointer none) st r none n w := by
  obtain ⟨S, T, Y, tv, wv, L, h⟩ := h
  exact ⟨S, [], [], tv, wv, L, h.drop⟩
theorem Wl.below (h : Wl B c b x gb Z nm vx vy st r lo n w) (hb : Below w.heap.size w w') : Wl B c b x gb Z nm vx vy st r lo n w' ∧ Kept B Z w w' := by
  obtain ⟨S, T, Y, tv, wv, L, h⟩ := h
  exact ⟨⟨S, T, Y, tv, wv, L, (h.below hb).1⟩, (h.below hb).2⟩
theorem Wl.sz (h : Wl B c b x gb Z nm vx vy st r lo n w) : B ≤ w.heap.size ∧ c < w.heap.size ∧ x < w.heap.size ∧ gb < w.heap.size := by
  obtain ⟨S, T, Y, tv, wv, L, h⟩ := h
  exact ⟨h.sz, h.dk.lt, h.d5.lt, h.bk.there gb (by unfold Bk.bkBlocks; simp)⟩
theorem Wl.zlt (h : Wl B c b x gb Z nm vx vy st r lo n w) : ∀ k ∈ Z, k < w.heap.size := by
  obtain ⟨S, T, Y, tv, wv, L, h⟩ := h
  exact h.zt
/-- One more bystander: a block made just now. -/
theorem Wl.newZ (h : Wl B c b x gb Z nm vx vy st r lo n w) (o : Obj) : Wl B c b x gb (w.heap.size :: Z) nm vx vy st r lo n (w.alloc o) := by
  obtain ⟨S, T, Y, tv, wv, L, h⟩ := h
  have hb : Below w.heap.size w (w.alloc o) := (Below.refl _ _).alloc (Nat.le_refl _) _
  exact ⟨S, T, Y, tv, wv, L, (h.below hb).1.moreZ (V := [w.heap.size]) (w0 := w) h.all_lt (fun k hk => by obtain rfl := List.mem_singleton.1 hk; simp)⟩
theorem Wl.moreZ {w0 : World} {g : Nat} (h : Wl B c b x gb Z nm vx vy st r lo n w0) (hb : Below w0.heap.size w0 w) (h1 : w0.heap.size ≤ g) (h2 : g < w.heap.size) : Wl B c b x gb (g :: Z) nm vx vy st r lo n w := by
  obtain ⟨S, T, Y, tv, wv, L, h⟩ := h
  exact ⟨S, T, Y, tv, wv, L, (h.below hb).1.moreZ (V := [g]) (w0 := w0) h.all_lt (fun k hk => by obtain rfl := List.mem_singleton.1 hk; exact ⟨h1, h2⟩)⟩
theorem Wl.lessZ {Z' : List Nat} (h : Wl B c b x gb Z nm vx vy st r lo n w) (hz : ∀ k ∈ Z', k ∈ Z) : Wl B c b x gb Z' nm vx vy st r lo n w := by
  obtain ⟨S, T, Y, tv, wv, L, h⟩ := h
  exact ⟨S, T, Y, tv, wv, L, h.lessZ hz⟩
/-- A bystander written. -/
theorem Wl.setZ (h : Wl B c b x gb Z nm vx vy st r lo n w) {g : Nat} (hg : g ∈ Z) (hB : B ≤ g) (i : Nat) (u : Value) : Wl B c b x gb Z nm vx vy st r lo n (w.setCell ⟨g, i, none⟩ u) ∧ Below B w (w.setCell ⟨g, i, none⟩ u) := by
  obtain ⟨S, T, Y, tv, wv, L, h⟩ := h
  have hk : ∀ k, k ≠ g → (w.setCell ⟨g, i, none⟩ u).heap[k]? = w.heap[k]? := fun k hk => Below.heap_setCell _ _ _ _ hk
  have hm : Mv [g] [g] w (w.setCell ⟨g, i, none⟩ u) := (Mv.refl [g] w).set_ (by simp) i u
  have hn : ∀ {O : List Nat}, (∀ k ∈ O, k ∉ Z) → ∀ k ∈ O, k ≠ g := fun ho k hk e => ho k hk (by rw [e]; exact hg)
  have hc := hn h.sp.dz
  exact ⟨⟨S, T, Y, tv, wv, L, ⟨h.dk.keep (hk c (hc c (by simp))) (hk b (hc b (by simp))), h.d5.keep (fun k h' => hk k (hn h.sp.sz k h')), h.lg.keep (fun k h' => hk k (hn h.sp.tz k h')) (fun k h' => hk k (hn h.sp.yz k h')), h.bk.keep (fun k h' => hk k (hn h.sp.kz k h')), h.sp, fun k h' => Nat.lt_of_lt_of_le (h.zt k h') hm.size, h.ok, h.up, Nat.le_trans h.sz hm.size⟩⟩, hm.below (by simpa using hB) h.sz⟩
/-! ### each call -/
theorem wl_fuse (h : Wl B c b x gb Z nm vx vy st r lo n w) (m : Int) :
    Calls Tryz.prog 22 #[.pointer (some ⟨c, 0, none⟩), .int .i64 m] w fun e w' => e = .returned (.tuple #[]) ∧ Wl B c b x gb Z nm vx vy (fuseD st m) r lo n w' ∧ Kept B Z w w' := by
  obtain ⟨S, T, Y, tv, wv, L, h⟩ := h
  refine (fuse_any c b st m w h.dk).mono ?_
  rintro e w' ⟨rfl, hd, hm⟩
  obtain ⟨h1, h2⟩ := h.moveD (hm.wide (T := [c, b]) (by simp)) hd
  exact ⟨rfl, ⟨S, T, Y, tv, wv, L, h1⟩, h2⟩
theorem wl_restore (h : Wl B c b x gb Z nm vx vy st r lo n w) :
    Calls Tryz.prog 24 #[.pointer (some ⟨c, 0, none⟩)] w fun e w' => e = .returned (.tuple #[]) ∧ Wl B c b x gb Z nm vx vy (restoreD st) r lo n w' ∧ Kept B Z w w' := by
  obtain ⟨S, T, Y, tv, wv, L, h⟩ := h
  refine (restore_any c b st w h.dk).mono ?_
  rintro e w' ⟨rfl, hd, hm⟩
  obtain ⟨h1, h2⟩ := h.moveD (hm.wide (T := [c, b]) (by simp)) hd
  exact ⟨rfl, ⟨S, T, Y, tv, wv, L, h1⟩, h2⟩
theorem wl_crash (h : Wl B c b x gb Z nm vx vy st r lo n w) (hok : st.Ok) (keep : List Int) (A : Option Addr) (cp : Nat) (hr : Reads w B 1 A keep.length (ints keep))
    (hv : ∀ v ∈ keep, -9223372036854775808 ≤ v ∧ v ≤ 9223372036854775807) (hl : keep.length ≤ 9223372036854775807) :
    Calls Tryz.prog 23 #[.pointer (some ⟨c, 0, none⟩), .slice A keep.length cp] w fun e w' => e = .returned (.tuple #[]) ∧ Wl B c b x gb Z nm vx vy (crashD st keep) r lo n w' ∧ Kept B Z w w' := by
  obtain ⟨S, T, Y, tv, wv, L, h⟩ := h
  refine (crash_any c b st hok keep A cp w h.dk (hr.more h.sz) (fun h0 ad e => ?_) hv hl).mono ?_
  · obtain ⟨ad', e', hlt, _⟩ := hr.2 h0
    rw [e] at e'
    injection e' with e'
    subst e'
    have h1 := h.up.1 c (by simp)
    have h2 := h.up.1 b (by simp)
    have h3 := h.sz
    omega
  rintro e w' ⟨rfl, hd, hm⟩
  obtain ⟨h1, h2⟩ := h.moveD hm hd
  exact ⟨rfl, ⟨S, T, Y, tv, wv, L, h1⟩, h2⟩
theorem wl_crash5 (h : Wl B c b x gb Z nm vx vy st r lo n w) (hok : r.Ok) (keep : List Int) (A : Option Addr) (cp : Nat) (hr : Reads w B 1 A keep.length (ints keep))
    (hv : ∀ v ∈ keep, -9223372036854775808 ≤ v ∧ v ≤ 9223372036854775807) (hl : keep.length ≤ 9223372036854775807) :
    Calls Tryz.prog 33 #[.pointer (some ⟨x, 0, none⟩), .slice A keep.length cp] w fun e w' => e = .returned (.tuple #[]) ∧ Wl B c b x gb Z nm vx vy st (crash5 r keep) lo n w' ∧ Kept B Z w w' := by
  obtain ⟨S, T, Y, tv, wv, L, h⟩ := h
  refine (crash5_any x S r keep A cp w h.d5 hok (hr.more h.sz) (fun h0 ad e hh => ?_) hv hl).mono ?_
  · obtain ⟨ad', e', hlt, _⟩ := hr.2 h0
    rw [e] at e'
    injection e' with e'
    subst e'
    have h1 := h.up.2.1 _ hh
    omega
  rintro e w' ⟨S', rfl, hd, hm⟩
  obtain ⟨h1, h2⟩ := h.moveS hm hd
  exact ⟨rfl, ⟨S', T, Y, tv, wv, L, h1⟩, h2⟩
theorem wl_append (h : Wl B c b x gb Z nm vx vy st r lo n w) (hok : st.Ok) (s y : ByteArray) (hs : s.size ≤ 9223372036854775807) (hy : y.size ≤ 9223372036854775807) :
    Calls Tryz.prog 17 #[.pointer (some ⟨c, 0, none⟩), .string s, .string y] w fun e w' => e = .returned (.int .i64 (appendD st s y).1) ∧ Wl B c b x gb Z nm vx vy (appendD st s y).2 r lo n w' ∧ Kept B Z w w' := by
  obtain ⟨S, T, Y, tv, wv, L, h⟩ := h
  refine (append_any c b st hok s y hs hy w h.dk).mono ?_
  rintro e w' ⟨rfl, hd, hm⟩
  obtain ⟨h1, h2⟩ := h.moveD hm hd
  exact ⟨rfl, ⟨S, T, Y, tv, wv, L, h1⟩, h2⟩
theorem wl_append5 (h : Wl B c b x gb Z nm vx vy st r lo n w) (hok : r.Ok) (s y : ByteArray) (hy : y.size ≤ 1000000000) :
    Calls Tryz.prog 30 #[.pointer (some ⟨x, 0, none⟩), .string s, .string y] w fun e w' => e = .returned (.int .i64 (append5 r s y).1) ∧ Wl B c b x gb Z nm vx vy st (append5 r s y).2 lo n w' ∧ Kept B Z w w' := by
  obtain ⟨S, T, Y, tv, wv, L, h⟩ := h
  refine (append5_any x S r s y hy w h.d5 hok).mono ?_
  rintro e w' ⟨S', rfl, hd, hm⟩
  obtain ⟨h1, h2⟩ := h.moveS hm hd
  exact ⟨rfl, ⟨S', T, Y, tv, wv, L, h1⟩, h2⟩
/-- The document's disk's own cells, where the statement writes them. -/
theorem Wl.cells (h : Wl B c b x gb Z nm vx vy st r lo n w) : w.cell? ⟨x, 3, none⟩ = some (.int .i64 r.fuse) ∧ w.cell? ⟨x, 0, none⟩ = some (.bool r.on) ∧ w.frozen? ⟨x, 3, none⟩ = false ∧ w.frozen? ⟨x, 0, none⟩ = false := by
  obtain ⟨S, T, Y, tv, wv, L, h⟩ := h
  exact ⟨h.d5.cell3, h.d5.cell0, h.d5.frozen 3, h.d5.frozen 0⟩
theorem Wl.setFuse (h : Wl B c b x gb Z nm vx vy st r lo n w) (m : Int) : Wl B c b x gb Z nm vx vy st ⟨r.on, r.l, r.ops, m⟩ lo n (w.setCell ⟨x, 3, none⟩ (.int .i64 m)) ∧ Kept B Z w (w.setCell ⟨x, 3, none⟩ (.int .i64 m)) := by
  obtain ⟨S, T, Y, tv, wv, L, h⟩ := h
  obtain ⟨h1, h2⟩ := h.moveS (mv_own h.d5 (mv_cell (c := x) (w := w) 3 (.int .i64 m))) (h.d5.set3 m)
  exact ⟨⟨S, T, Y, tv, wv, L, h1⟩, h2⟩
theorem Wl.setOn (h : Wl B c b x gb Z nm vx vy st r lo n w) : Wl B c b x gb Z nm vx vy st (restore5 r) lo n (w.setCell ⟨x, 0, none⟩ (.bool true)) ∧ Kept B Z w (w.setCell ⟨x, 0, none⟩ (.bool true)) := by
  obtain ⟨S, T, Y, tv, wv, L, h⟩ := h
  obtain ⟨h1, h2⟩ := h.moveS (mv_own h.d5 (mv_cell (c := x) (w := w) 0 (.bool true))) (h.d5.set0 true)
  exact ⟨⟨S, T, Y, tv, wv, L, h1⟩, h2⟩
theorem wl_same (h : Wl B c b x gb Z nm vx vy st r lo n w) (ha : Agree5 st r) :
    Calls Tryz.prog 32 #[.pointer (some ⟨c, 0, none⟩), .pointer (some ⟨x, 0, none⟩)] w fun e w' => e = .returned (.bool true) ∧ Wl B c b x gb Z nm vx vy st r lo n w' ∧ Kept B Z w w' := by
  obtain ⟨S, T, Y, tv, wv, L, h⟩ := h
  refine (same6_any c b x S st r w h.dk h.d5 ha).mono ?_
  rintro e w' ⟨rfl, hb⟩
  obtain ⟨h1, h2⟩ := h.below hb
  exact ⟨rfl, ⟨S, T, Y, tv, wv, L, h1⟩, h2⟩
/-- A log that Open hands back, as a bystander. -/
def LogsBack (c : Nat) (nm : ByteArray) (w : World) (v : Value) (T : List Nat) : Option Wal.Gs → Prop
  | none => v = .pointer none ∧ T = []
  | some gs => ∃ g, v = .pointer (some ⟨g, 0, none⟩) ∧ LogAt g c T nm (lgOf gs false) w
def Logs5Back (x : Nat) (nm : ByteArray) (w : World) (v : Value) (T : List Nat) : Option Wal.Gs → Prop
  | none => v = .pointer none ∧ T = []
  | some gs => ∃ y, v = .pointer (some ⟨y, 0, none⟩) ∧ L5At y x T nm (lgOf gs false) w
theorem LogsBack.keep {c : Nat} {nm : ByteArray} {v : Value} {T : List Nat} {o : Option Wal.Gs} (h : LogsBack c nm w v T o) (hk : ∀ k ∈ T, w'.heap[k]? = w.heap[k]?) : LogsBack c nm w' v T o := by
  cases o with
  | none => exact h
  | some gs => obtain ⟨g, h1, h2⟩ := h; exact ⟨g, h1, h2.keep hk⟩
theorem wl_open (h : Wl B c b x gb Z nm vx vy st r none n w) (hok : st.Ok) (hn : nm.size ≤ 1000000) (hf : (fileAt st.fs nm).1.size ≤ 100000000) :
    Calls Tryz.prog 10 #[.pointer (some ⟨c, 0, none⟩), .string nm] w fun e w' => ∃ v T', e = .returned (.tuple #[v, .int .i64 (openD nm st).1]) ∧ LogsBack c nm w' v T' (openD nm st).2.2 ∧ Wl B c b x gb (T' ++ Z) nm vx vy (openD nm st).2.1 r none n w' ∧ Kept B Z w w' ∧ (∀ k ∈ T', w.heap.size ≤ k) := by
  obtain ⟨S, T, Y, tv, wv, L, h⟩ := h
  refine (open_any c b nm st hok w h.dk hn hf).mono ?_
  rintro e w' ⟨v, rfl, hlb, hd, hm⟩
  obtain ⟨h1, h2⟩ := h.moveD hm hd
  obtain ⟨o, ho⟩ : ∃ o, (openD nm st).2.2 = o := ⟨_, rfl⟩
  rw [ho] at hlb ⊢
  cases o with
  | none => exact ⟨v, [], rfl, ⟨hlb, rfl⟩, ⟨S, T, Y, tv, wv, L, h1⟩, h2, fun k hk => absurd hk List.not_mem_nil⟩
  | some gs =>
    obtain ⟨g, T', rfl, h3, h4⟩ := hlb
    exact ⟨_, T', rfl, ⟨g, rfl, h3⟩, ⟨S, T, Y, tv, wv, L, h1.moreZ (w0 := w) h.all_lt (fun k hk => ⟨h4 k hk, h3.there k hk⟩)⟩, h2, h4⟩
theorem wl_openlog (h : Wl B c b x gb Z nm vx vy st' r none n w) (ha : Agree5 st r) (hn : nm.size ≤ 1000000) :
    Calls Tryz.prog 31 #[.pointer (some ⟨x, 0, none⟩), .string nm] w fun e w' => ∃ v Y', e = .returned (.tuple #[v, .int .i64 (open5 nm r).1]) ∧ Logs5Back x nm w' v Y' (open5 nm r).2.2 ∧ Wl B c b x gb (Y' ++ Z) nm vx vy st' (open5 nm r).2.1 none n w' ∧ Kept B Z w w' ∧ (∀ k ∈ Y', w.heap.size ≤ k) := by
  obtain ⟨S, T, Y, tv, wv, L, h⟩ := h
  refine (openlog_any x S nm st r w h.d5 ha hn).mono ?_
  rintro e w' ⟨v, S', rfl, hlb, hd, hm⟩
  obtain ⟨h1, h2⟩ := h.moveS hm hd
  obtain ⟨o, ho⟩ : ∃ o, (open5 nm r).2.2 = o := ⟨_, rfl⟩
  rw [ho] at hlb ⊢
  cases o with
  | none => exact ⟨v, [], rfl, ⟨hlb, rfl⟩, ⟨S', T, Y, tv, wv, L, h1⟩, h2, fun k hk => absurd hk List.not_mem_nil⟩
  | some gs =>
    obtain ⟨y, T', rfl, h3, h4⟩ := hlb
    have hs : ∀ k ∈ S', k ∉ T' := off_symm (l5_apart h3 hd)
    refine ⟨_, T', rfl, ⟨y, rfl, h3⟩, ⟨S', T, Y, tv, wv, L, ?_⟩, h2, h4⟩
    have hT : T = [] ∧ Y = [] := ⟨h.lg.2.2.1, h.lg.2.2.2⟩
    have hsp := h1.sp
    refine ⟨h1.dk, h1.d5, h1.lg, h1.bk, ?_, fun k hk => (List.mem_append.1 hk).elim (h3.there k) (h1.zt k), h1.ok, h1.up, h1.sz⟩
    have hnew : ∀ {O : List Nat}, (∀ k ∈ O, k < w.heap.size) → ∀ k ∈ O, k ∉ T' := fun hO => off_symm (off_new h4 hO)
    have happ : ∀ {O : List Nat}, (∀ k ∈ O, k ∉ T') → (∀ k ∈ O, k ∉ Z) → ∀ k ∈ O, k ∉ T' ++ Z := fun a b => off_symm (off_app (off_symm a) (off_symm b))
    exact ⟨hsp.ds, hsp.dt, hsp.dy, hsp.dk, happ (hnew h.dlt) hsp.dz, hsp.st, hsp.sy, hsp.sk, happ hs hsp.sz, hsp.ty, hsp.tk, happ (hnew h.lg.there.1) hsp.tz, hsp.yk, happ (hnew h.lg.there.2) hsp.yz, happ (hnew h.bk.there) hsp.kz⟩
/-- The two logs that were opened. -/
theorem Wl.join {v v5 : Value} {T' Y' : List Nat} {o : Option Wal.Gs} (h : Wl B c b x gb (Y' ++ (T' ++ Z)) nm vx vy st r none n w) (h1 : LogsBack c nm w v T' o) (h2 : Logs5Back x nm w v5 Y' o) (hyt : ∀ k ∈ Y', k ∉ T') (hyz : ∀ k ∈ Y', k ∉ Z) (htz : ∀ k ∈ T', k ∉ Z) (hu : ∀ k, k ∈ T' ∨ k ∈ Y' → B ≤ k) :
    Wl B c b x gb Z nm v v5 st r (o.map fun gs => (lgOf gs false, lgOf gs false)) n w := by
  obtain ⟨S, T, Y, tv, wv, L, h⟩ := h
  obtain ⟨_, _, rfl, rfl⟩ := h.lg
  have hz : ∀ k ∈ Z, k < w.heap.size := fun k hk => h.zt k (List.mem_append.2 (.inr (List.mem_append.2 (.inr hk))))
  refine ⟨S, T', Y', tv, wv, L, ⟨h.dk, h.d5, ?_, h.bk, h.sp.join hyt hyz htz, hz, h.ok, ⟨h.up.1, h.up.2.1, fun k hk => hu k (.inl hk), fun k hk => hu k (.inr hk), h.up.2.2.2.2⟩, h.sz⟩⟩
  cases o with
  | none => exact ⟨h1.1, h2.1, h1.2, h2.2⟩
  | some gs =>
    obtain ⟨g, e1, g1⟩ := h1
    obtain ⟨y, e2, g2⟩ := h2
    exact ⟨g, y, e1, e2, g1, g2⟩
theorem log_parts {lg lg5 : Lg} (h : Wl B c b x gb Z nm vx vy st r (some (lg, lg5)) n w) : ∃ g y, vx = .pointer (some ⟨g, 0, none⟩) ∧ vy = .pointer (some ⟨y, 0, none⟩) := by
  obtain ⟨S, T, Y, tv, wv, L, h⟩ := h
  obtain ⟨g, y, e1, e2, _⟩ := h.lg
  exact ⟨g, y, e1, e2⟩
theorem wl_commit {lg lg5 : Lg} {g : Nat} (h : Wl B c b x gb Z nm (.pointer (some ⟨g, 0, none⟩)) vy st r (some (lg, lg5)) n w) (hok : st.Ok) (ss : List ByteArray) (A : Option Addr) (cp : Nat) (hr : Reads w w.heap.size 1 A ss.length (strs ss)) (hA : ∀ ad, A = some ad → ad.block ∈ Z)
    (hn : nm.size ≤ 1000000) (htot : total ss ≤ 50000000) (hL : ss.length ≤ 1000000) (hs : ∀ s ∈ ss, s.size ≤ 9223372036854775807) (hrl : lg.recs.length ≤ 1000000) (hgl : lg.groups ≤ 1000000000) (hzl : lg.size ≤ 1000000000) :
    Calls Tryz.prog 11 #[.pointer (some ⟨g, 0, none⟩), .slice A ss.length cp] w fun e w' => e = .returned (.int .i64 (commitR nm lg st ss).1) ∧ Wl B c b x gb Z nm (.pointer (some ⟨g, 0, none⟩)) vy (commitR nm lg st ss).2.2 r (some ((commitR nm lg st ss).2.1, lg5)) n w' ∧ Kept B Z w w' := by
  obtain ⟨S, T, Y, tv, wv, L, h⟩ := h
  obtain ⟨g', y, e1, e2, g1, g2⟩ := h.lg
  obtain rfl : g = g' := by injection e1 with e; injection e with e; injection e
  refine (commit_any g c b T nm lg st hok ss A cp w g1 h.dk (fun k hk => ⟨fun e => h.sp.dt c (by simp) (by rw [← e]; exact hk), fun e => h.sp.dt b (by simp) (by rw [← e]; exact hk)⟩) hr (fun h0 ad e => ⟨fun hh => h.sp.tz _ hh (hA ad e), fun hh => h.sp.dz c (by simp) (by rw [← hh]; exact hA ad e), fun hh => h.sp.dz b (by simp) (by rw [← hh]; exact hA ad e)⟩) hn htot hL hs hrl hgl hzl).mono ?_
  rintro e w' ⟨T', rfl, hl, hd, hm⟩
  have hm' : Mv ([c, b] ++ T) ([c, b] ++ T') w w' := hm
  have hdt : ∀ k ∈ [c, b], k ∉ T' := fun k hk hh => by
    have := hl.apart hd k hh
    simp only [List.mem_cons, List.not_mem_nil, or_false] at hk
    rcases hk with rfl | rfl
    · exact this.1 rfl
    · exact this.2 rfl
  have hM : ∀ k ∈ [c, b] ++ T, B ≤ k := fun k hk => (List.mem_append.1 hk).elim (h.up.1 k) (h.up.2.2.1 k)
  have hoff : ∀ {O : List Nat}, (∀ k ∈ [c, b], k ∉ O) → (∀ k ∈ T, k ∉ O) → ∀ k ∈ O, k ∉ [c, b] ++ T := fun a b => off_symm (off_app a b)
  exact ⟨rfl, ⟨S, T', Y, tv, wv, L, ⟨hd, h.d5.keep (fun k hk => hm'.block k (h.d5.there k hk) (hoff h.sp.ds (off_symm h.sp.st) k hk)), ⟨g, y, rfl, e2, hl, g2.keep (fun k hk => hm'.block k (g2.there k hk) (hoff h.sp.dy h.sp.ty k hk))⟩, h.bk.keep (fun k hk => hm'.block k (h.bk.there k hk) (hoff h.sp.dk h.sp.tk k hk)),
    h.sp.moveT hm' hdt h.d5.there h.lg.there.2 h.bk.there h.zt, fun k hk => Nat.lt_of_lt_of_le (h.zt k hk) hm'.size, h.ok, ⟨h.up.1, h.up.2.1, up_moved hm' (fun _ h => List.mem_append.2 (.inr h)) hM h.sz, h.up.2.2.2⟩, Nat.le_trans h.sz hm'.size⟩⟩, kept_of hm' hM h.sz h.zt (off_app h.sp.dz h.sp.tz)⟩
theorem wl_commit5 {lg lg5 : Lg} {y : Nat} (h : Wl B c b x gb Z nm vx (.pointer (some ⟨y, 0, none⟩)) st' r (some (lg, lg5)) n w) (ha : Agree5 st r) (ss : List ByteArray) (A : Option Addr) (cp : Nat) (hr : Reads w B 1 A ss.length (strs ss))
    (htot : total ss ≤ 50000000) (hL : ss.length ≤ 1000000) (hrl : lg5.recs.length ≤ 1000000) (hgl : lg5.groups ≤ 1000000000) (hzl : lg5.size ≤ 1000000000) :
    Calls Tryz.prog 35 #[.pointer (some ⟨y, 0, none⟩), .slice A ss.length cp] w fun e w' => e = .returned (.int .i64 (commit5 nm lg5 r ss).1) ∧ Wl B c b x gb Z nm vx (.pointer (some ⟨y, 0, none⟩)) st' (commit5 nm lg5 r ss).2.2 (some (lg, (commit5 nm lg5 r ss).2.1)) n w' ∧ Kept B Z w w' := by
  obtain ⟨S, T, Y, tv, wv, L, h⟩ := h
  obtain ⟨g, y', e1, e2, g1, g2⟩ := h.lg
  obtain rfl : y = y' := by injection e2 with e; injection e with e; injection e
  refine (commit5_any y x Y S nm lg5 st r ss A cp w g2 h.d5 ha (hr.more h.sz) (fun h0 ad e hh => ?_) htot hL hrl hgl hzl).mono ?_
  · obtain ⟨ad', e', hlt, _⟩ := hr.2 h0
    rw [e] at e'
    injection e' with e'
    subst e'
    have := h.up.2.1 _ hh
    omega
  rintro e w' ⟨Y', S', rfl, hl, hd, hm⟩
  have hsy : ∀ k ∈ S', k ∉ Y' := off_symm (l5_apart hl hd)
  have hM : ∀ k ∈ Y ++ S, B ≤ k := fun k hk => (List.mem_append.1 hk).elim (h.up.2.2.2.1 k) (h.up.2.1 k)
  have hoff : ∀ {O : List Nat}, (∀ k ∈ Y, k ∉ O) → (∀ k ∈ S, k ∉ O) → ∀ k ∈ O, k ∉ Y ++ S := fun a b => off_symm (off_app a b)
  exact ⟨rfl, ⟨S', T, Y', tv, wv, L, ⟨h.dk.mv hm (hoff (off_symm h.sp.dy) (off_symm h.sp.ds) c (by simp)) (hoff (off_symm h.sp.dy) (off_symm h.sp.ds) b (by simp)), hd, ⟨g, y, e1, rfl, g1.keep (fun k hk => hm.block k (g1.there k hk) (hoff (off_symm h.sp.ty) h.sp.st k hk)), hl⟩, h.bk.keep (fun k hk => hm.block k (h.bk.there k hk) (hoff h.sp.yk h.sp.sk k hk)),
    h.sp.moveY hm hsy h.dlt h.lg.there.1 h.bk.there h.zt, fun k hk => Nat.lt_of_lt_of_le (h.zt k hk) hm.size, h.ok, ⟨h.up.1, up_moved hm (fun _ h => List.mem_append.2 (.inr h)) hM h.sz, h.up.2.2.1, up_moved hm (fun _ h => List.mem_append.2 (.inl h)) hM h.sz, h.up.2.2.2.2⟩, Nat.le_trans h.sz hm.size⟩⟩, kept_of hm hM h.sz h.zt (off_app h.sp.yz h.sp.sz)⟩
theorem wl_records {lg lg5 : Lg} {g : Nat} (h : Wl B c b x gb Z nm (.pointer (some ⟨g, 0, none⟩)) vy st r (some (lg, lg5)) n w) (hl : lg.recs.length ≤ 1000000000) :
    Calls Tryz.prog 12 #[.pointer (some ⟨g, 0, none⟩)] w fun e w' => ∃ v, e = .returned v ∧ w'.ownsRow w.heap.size 9 1 v lg.recs.length (strs lg.recs) ∧ Below w.heap.size w w' := by
  obtain ⟨S, T, Y, tv, wv, L, h⟩ := h
  obtain ⟨g', y, e1, e2, g1, g2⟩ := h.lg
  obtain rfl : g = g' := by injection e1 with e; injection e with e; injection e
  exact records_any g c T nm lg w g1 hl
theorem wl_texts {w0 : World} {v : Value} {ss : List ByteArray} (h0 : Wl B c b x gb Z nm vx vy st r lo n w0) (hb : Below w0.heap.size w0 w) (hv : w.ownsRow w0.heap.size 9 1 v ss.length (strs ss)) (hn : n < 250) (hs : ss.length ≤ 10000000) :
    Calls Tryz.prog 37 #[.pointer (some ⟨gb, 0, none⟩), v] w fun e w' => e = .returned (.tuple #[]) ∧ Wl B c b x gb Z nm vx vy st r lo (n + 1) w' ∧ Kept B Z w0 w' ∧ w'.ownsRow 0 9 1 v ss.length (strs ss) := by
  obtain ⟨S, T, Y, tv, wv, L, h0⟩ := h0
  obtain ⟨h, hk⟩ := h0.below hb
  have hnew : ∀ k ∈ v.ownBlock.toList, w0.heap.size ≤ k := fun k hk => by simp only [Option.mem_toList] at hk; exact (hv.lt k hk).1
  refine (Bk.texts_add gb tv wv L w h.bk (by have := h.ok.1; omega) v ss (own_weak hv (Nat.zero_le _)) (by omega) (fun k hk hh => by have h1 := (hv.lt k hk).1; have h2 := h0.bk.there k hh; omega)).mono ?_
  rintro e w' ⟨rfl, tv', wv', m, hb', hm⟩
  obtain ⟨h1, h2⟩ := h.moveK (n' := n + 1) hm hb' (fun O hO => off_new (B := w0.heap.size) hnew (by
    rcases hO with rfl | rfl | rfl | rfl | rfl
    · exact h0.dlt
    · exact h0.d5.there
    · exact h0.lg.there.1
    · exact h0.lg.there.2
    · exact h0.zt)) (fun k hk => Nat.le_trans h0.sz (hnew k hk)) ⟨by rw [List.length_append]; have := h.ok.1; simp; omega, fun q hq => by
      rcases List.mem_append.1 hq with hq | hq
      · exact h.ok.2 q hq
      · obtain rfl := List.mem_singleton.1 hq
        exact ⟨rfl, hs⟩⟩
  exact ⟨rfl, ⟨S, T, Y, tv', wv', _, h1⟩, hk.trans h2, (hb'.rows _ (List.mem_append.2 (.inr (List.mem_singleton.2 rfl)))).v⟩
/-- What the document's log has, where it is read. -/
theorem Wl.log5 {lg lg5 : Lg} {y : Nat} (h : Wl B c b x gb Z nm vx (.pointer (some ⟨y, 0, none⟩)) st r (some (lg, lg5)) n w) : ∃ A cp, ∀ W, Below w.heap.size w W → W.cell? ⟨y, 2, none⟩ = some (.slice A lg5.recs.length cp) ∧ W.cell? ⟨y, 3, none⟩ = some (.int .i64 lg5.groups) ∧ W.cell? ⟨y, 4, none⟩ = some (.int .i64 lg5.size) ∧ Reads W W.heap.size 1 A lg5.recs.length (strs lg5.recs) := by
  obtain ⟨S, T, Y, tv, wv, L, h⟩ := h
  obtain ⟨g, y', e1, e2, g1, g2⟩ := h.lg
  obtain rfl : y = y' := by injection e2 with e; injection e with e; injection e
  obtain ⟨A, cp, h1, h2⟩ := g2.row
  refine ⟨A, cp, fun W hW => ⟨(hW.cell (p := ⟨y, 2, none⟩) g2.lt).trans h1, (hW.cell (p := ⟨y, 3, none⟩) g2.lt).trans g2.cell3, (hW.cell (p := ⟨y, 4, none⟩) g2.lt).trans g2.cell4, (h2.below hW).more hW.size⟩⟩
theorem wl_groups {lg lg5 : Lg} {g : Nat} (h : Wl B c b x gb Z nm (.pointer (some ⟨g, 0, none⟩)) vy st r (some (lg, lg5)) n w) (W : World) (hW : Below w.heap.size w W) :
    (Calls Tryz.prog 13 #[.pointer (some ⟨g, 0, none⟩)] W fun e w' => e = .returned (.int .i64 lg.groups) ∧ W = w') ∧ (Calls Tryz.prog 14 #[.pointer (some ⟨g, 0, none⟩)] W fun e w' => e = .returned (.int .i64 lg.size) ∧ W = w') := by
  obtain ⟨S, T, Y, tv, wv, L, h⟩ := h
  obtain ⟨g', y, e1, e2, g1, g2⟩ := h.lg
  obtain rfl : g = g' := by injection e1 with e; injection e with e; injection e
  exact ⟨groups_any g c T nm lg W (g1.below hW), size_any' g c T nm lg W (g1.below hW)⟩
theorem wl_apart (h : Wl B c b x gb Z nm vx vy st r lo n w) : Calls Tryz.prog 38 #[.pointer (some ⟨gb, 0, none⟩)] w fun e w' => e = .returned (.bool true) ∧ Below B w w' := by
  obtain ⟨S, T, Y, tv, wv, L, h⟩ := h
  refine (Bk.apart_any gb tv wv L w h.bk (fun q hq => (h.ok.2 q hq).1) (fun q hq => (h.ok.2 q hq).2)).mono ?_
  rintro e w' ⟨rfl, hm⟩
  exact ⟨rfl, hm.below h.up.2.2.2.2 h.sz⟩
end
end Go.Proofs.YtfmbadinfhpihaaGreat
