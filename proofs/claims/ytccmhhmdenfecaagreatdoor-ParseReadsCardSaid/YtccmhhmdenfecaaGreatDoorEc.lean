/- The walk of R.Cut: a copy of a tree that came in, cut to a number of nodes and a length of strings. The walk of R.CopyNode: a copy of a tree that reads. The walks of slices.Clone at texts, and of tree.Copy. -/
import Derived.Test.YtccmhhmdenfecaaGreatDoorEa
import Derived.WalkSpells
namespace Go.Proofs.YtccmhhmdenfecaaGreatDoor
set_option linter.unusedVariables false
set_option linter.unusedSimpArgs false
section
section
open Go.RowKit
/-- A tree of one's own in new blocks. -/
def Fresh (B : Nat) (w : World) (T : DT) (v : Value) : Prop := ∃ x0 x1 x2 x3 x4 x5 bs, v = .agg #[x0, x1, x2, x3, x4, x5] ∧ NRep w T [x0, x1, x2, x3, x4, x5] bs ∧ bs.Nodup ∧ ∀ i ∈ bs, B ≤ i
theorem touch_old {R : Nat} {w0 w w' : World} (hb : Below w0.heap.size w0 w) (hR : w0.heap.size ≤ R) (ht : Touch [R] w w') : Below w0.heap.size w0 w' :=
  ⟨ht.os.trans hb.os, ht.tape.trans hb.tape, ht.output.trans hb.output, Nat.le_trans hb.size ht.size, fun i hi => (ht.block i (Nat.lt_of_lt_of_le hi hb.size) (by simp; omega)).trans (hb.block i hi)⟩
theorem row6_set {w : World} {Z : Nat} {a0 a1 a2 a3 a4 a5 : Value} {ty : TypeId} (h : w.heap[Z]? = some (.cells #[a0, a1, a2, a3, a4, a5] ty (0, 0))) (v0 v1 v2 v3 v4 v5 : Value) :
    ((((((w.setCell ⟨Z, 0, none⟩ v0).setCell ⟨Z, 1, none⟩ v1).setCell ⟨Z, 2, none⟩ v2).setCell ⟨Z, 3, none⟩ v3).setCell ⟨Z, 4, none⟩ v4).setCell ⟨Z, 5, none⟩ v5).heap[Z]? = some (.cells #[v0, v1, v2, v3, v4, v5] ty (0, 0)) := by
  have h0 := heap_setCell_same w Z 0 _ _ v0 h
  simp only [List.setIfInBounds_toArray, List.set_cons_zero, List.set_cons_succ] at h0
  have h1 := heap_setCell_same _ Z 1 _ _ v1 h0
  simp only [List.setIfInBounds_toArray, List.set_cons_zero, List.set_cons_succ] at h1
  have h2 := heap_setCell_same _ Z 2 _ _ v2 h1
  simp only [List.setIfInBounds_toArray, List.set_cons_zero, List.set_cons_succ] at h2
  have h3 := heap_setCell_same _ Z 3 _ _ v3 h2
  simp only [List.setIfInBounds_toArray, List.set_cons_zero, List.set_cons_succ] at h3
  have h4 := heap_setCell_same _ Z 4 _ _ v4 h3
  simp only [List.setIfInBounds_toArray, List.set_cons_zero, List.set_cons_succ] at h4
  have h5 := heap_setCell_same _ Z 5 _ _ v5 h4
  simp only [List.setIfInBounds_toArray, List.set_cons_zero, List.set_cons_succ] at h5
  exact h5
/-- A node whose children are yet to come, in a new block. -/
def NewN (wn wx : World) (Z : Nat) (kd nn u : Int) (s : List UInt8) (kv : Value) (ks : List (List UInt8)) : Prop :=
  Below wn.heap.size wn wx ∧ wn.heap.size ≤ Z ∧ wx.heap[Z]? = some (.cells #[.int .i64 kd, .int .i64 nn, .int .u64 u, .string ⟨s.toArray⟩, kv, .slice none 0 0] 27 (0, 0)) ∧ TxtRow wn.heap.size wx kv ks
theorem Touch.over {T : List Nat} {a W : World} (h : Touch T a W) {p : Addr} (hp : a.heap.size ≤ p.block) (v : Value) : Touch T a (W.setCell p v) :=
  ⟨h.os, h.tape, h.output, Nat.le_trans h.size (by simp), fun i hi hn => (heap_setCell_other W p i v (by omega)).trans (h.block i hi hn)⟩
theorem Kids.fresh {wr w' : World} {B : Nat} {ks : List (List UInt8)} {acc : List DT} {kv v : Value} {xs : List Value} {bl : List Nat} (h : Kids wr B ks acc kv v xs bl) (hs : ∀ i ∈ blkL kv ++ (blkL v ++ bl), w'.heap[i]? = wr.heap[i]?) (kd nn u : Int) (s : List UInt8) :
    Fresh B w' (.mk kd nn u s ks acc) (.agg #[.int .i64 kd, .int .i64 nn, .int .u64 u, .string ⟨s.toArray⟩, kv, v]) := by
  have hk := h.same hs
  refine ⟨_, _, _, _, _, _, _, rfl, ?_, hk.nd, hk.ge⟩
  rw [NRep]
  exact ⟨kv, v, xs, bl, rfl, hk.k, hk.r, hk.n, rfl⟩
/-- What the loop over the children holds. -/
def CutSt (B : Nat) (wx wr : World) (ks : List (List UInt8)) (acc : List DT) (kv v : Value) : Prop :=
  ∃ xs bl, Kids wr B ks acc kv v xs bl ∧ (∀ i ∈ blkL v ++ bl, wx.heap.size ≤ i)
theorem Fresh.mono {B B' : Nat} {w : World} {T : DT} {v : Value} (h : Fresh B w T v) (hB : B' ≤ B) : Fresh B' w T v := by
  obtain ⟨x0, x1, x2, x3, x4, x5, bs, rfl, hn, hnd, hge⟩ := h
  exact ⟨_, _, _, _, _, _, bs, rfl, hn, hnd, fun i hi => Nat.le_trans hB (hge i hi)⟩
theorem Fresh.six {B B' : Nat} {w : World} {T : DT} {v : Value} (h : Fresh B w T v) {Y : Nat} (hY : Y < B) (hB : B' ≤ B) (v0 v1 v2 v3 v4 v5 : Value) :
    Fresh B' ((((((w.setCell ⟨Y, 0, none⟩ v0).setCell ⟨Y, 1, none⟩ v1).setCell ⟨Y, 2, none⟩ v2).setCell ⟨Y, 3, none⟩ v3).setCell ⟨Y, 4, none⟩ v4).setCell ⟨Y, 5, none⟩ v5) T v := by
  obtain ⟨x0, x1, x2, x3, x4, x5, bs, rfl, hn, hnd, hge⟩ := h
  refine ⟨_, _, _, _, _, _, bs, rfl, hn.same _ _ _ fun i hi => ?_, hnd, fun i hi => Nat.le_trans hB (hge i hi)⟩
  exact (touch6 (Y := Y) v0 v1 v2 v3 v4 v5).block i (hn.bd _ _ _ i hi) (by have := hge i hi; simp; omega)
theorem below_six {B : Nat} {a w : World} (h : Below B a w) {Y : Nat} (hY : B ≤ Y) (v0 v1 v2 v3 v4 v5 : Value) :
    Below B a ((((((w.setCell ⟨Y, 0, none⟩ v0).setCell ⟨Y, 1, none⟩ v1).setCell ⟨Y, 2, none⟩ v2).setCell ⟨Y, 3, none⟩ v3).setCell ⟨Y, 4, none⟩ v4).setCell ⟨Y, 5, none⟩ v5) :=
  (((((h.setCell (p := ⟨Y, 0, none⟩) hY _).setCell (p := ⟨Y, 1, none⟩) hY _).setCell (p := ⟨Y, 2, none⟩) hY _).setCell (p := ⟨Y, 3, none⟩) hY _).setCell (p := ⟨Y, 4, none⟩) hY _).setCell (p := ⟨Y, 5, none⟩) hY _
end
end
section
section
open Go.RowKit
mutual
/-- The rows of a tree are short enough to be made anew. -/
def SmallD : DT → Prop
  | .mk _ _ _ _ ks l => ks.length ≤ 1048576 ∧ l.length ≤ 1048576 ∧ SmallDs l
def SmallDs : List DT → Prop
  | [] => True
  | t :: ts => SmallD t ∧ SmallDs ts
end
theorem SmallDs.at_ : ∀ {l : List DT}, SmallDs l → ∀ t ∈ l, SmallD t
  | t :: ts, h, x, hx => by
    rw [SmallDs] at h
    rcases List.mem_cons.1 hx with rfl | hx
    · exact h.1
    · exact SmallDs.at_ h.2 x hx
mutual
theorem short_small (long : Nat) : ∀ (T : DT), ShortD long T → sizeD T ≤ 1048576 → SmallD T
  | .mk kd n u s ks l, h, hz => by
    rw [ShortD] at h
    rw [sizeD] at hz
    rw [SmallD]
    have := kids_size l
    exact ⟨by omega, by omega, shorts_small long l h.2.2.2 (by omega)⟩
theorem shorts_small (long : Nat) : ∀ (l : List DT), ShortDs long l → sizesD l ≤ 1048576 → SmallDs l
  | [], _, _ => by rw [SmallDs]; trivial
  | t :: ts, h, hz => by
    rw [ShortDs] at h
    rw [sizesD] at hz
    rw [SmallDs]
    have := sizeD_pos t
    have := sizesD_nonneg ts
    exact ⟨short_small long t h.1 (by omega), shorts_small long ts h.2 (by omega)⟩
end
end
end
section
section
open Go.RowKit
end
end
end Go.Proofs.YtccmhhmdenfecaaGreatDoor
