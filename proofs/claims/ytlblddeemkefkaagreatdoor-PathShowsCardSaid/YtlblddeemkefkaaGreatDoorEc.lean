/- The walk of R.Cut: a copy of a tree that came in, cut to a number of nodes and a length of strings. The walk of R.CopyNode: a copy of a tree that reads. The walks of slices.Clone at texts, and of tree.Copy. -/
import Derived.Test.YtlblddeemkefkaaGreatDoorEa
import Derived.WalkSpells
namespace Go.Proofs.YtlblddeemkefkaaGreatDoor
set_option linter.unusedVariables false
set_option linter.unusedSimpArgs false
section
section
open Go.RowKit
/-- A tree of one's own in new blocks. -/
def Fresh (B : Nat) (w : World) (T : DT) (v : Value) : Prop := ∃ x0 x1 x2 x3 x4 x5 bs, v = .agg #[x0, x1, x2, x3, x4, x5] ∧ NRep w T [x0, x1, x2, x3, x4, x5] bs ∧ bs.Nodup ∧ ∀ i ∈ bs, B ≤ i
def RoomRow (w : World) (R left long : Nat) : Prop := w.heap[R]? = some (.cells #[.int .i64 left, .int .i64 long] 110 (0, 0))
theorem RoomRow.cells {w : World} {R left long : Nat} (h : RoomRow w R left long) : R < w.heap.size ∧ w.cell? ⟨R, 0, none⟩ = some (.int .i64 left) ∧ w.cell? ⟨R, 1, none⟩ = some (.int .i64 long) ∧ (∀ i, w.frozen? ⟨R, i, none⟩ = false) :=
  ⟨(Array.getElem?_eq_some_iff.1 h).1, cell_of_row _ _ _ _ _ _ h, cell_of_row _ _ _ _ _ _ h, fun i => frozen_of_row _ _ _ _ _ h⟩
theorem RoomRow.below {w w' : World} {R left long : Nat} (h : RoomRow w R left long) (hb : Below w.heap.size w w') : RoomRow w' R left long := (hb.block _ h.cells.1).trans h
theorem RoomRow.set {w : World} {R left long : Nat} (h : RoomRow w R left long) (l : Nat) : RoomRow (w.setCell ⟨R, 0, none⟩ (.int .i64 l)) R l long := by
  have := heap_setCell_same w R 0 _ _ (.int .i64 l) h
  exact this
theorem touch_old {R : Nat} {w0 w w' : World} (hb : Below w0.heap.size w0 w) (hR : w0.heap.size ≤ R) (ht : Touch [R] w w') : Below w0.heap.size w0 w' :=
  ⟨ht.os.trans hb.os, ht.tape.trans hb.tape, ht.output.trans hb.output, Nat.le_trans hb.size ht.size, fun i hi => (ht.block i (Nat.lt_of_lt_of_le hi hb.size) (by simp; omega)).trans (hb.block i hi)⟩
theorem cell_al {W : World} {b o : Nat} {v : Value} (hb : b < W.heap.size) (h : W.cell? ⟨b, o, none⟩ = some v) (ob : Obj) : (W.alloc ob).cell? ⟨b, o, none⟩ = some v := (((Below.refl W.heap.size W).alloc (Nat.le_refl _) ob).cell (p := ⟨b, o, none⟩) hb).trans h
theorem lt_al {W : World} {b : Nat} (hb : b < W.heap.size) (ob : Obj) : b < (W.alloc ob).heap.size := by rw [World.size_alloc]; omega
theorem set6_oth {w : World} {b Z : Nat} (h : b ≠ Z) (o : Nat) (v0 v1 v2 v3 v4 v5 : Value) : ((((((w.setCell ⟨Z, 0, none⟩ v0).setCell ⟨Z, 1, none⟩ v1).setCell ⟨Z, 2, none⟩ v2).setCell ⟨Z, 3, none⟩ v3).setCell ⟨Z, 4, none⟩ v4).setCell ⟨Z, 5, none⟩ v5).cell? ⟨b, o, none⟩ = w.cell? ⟨b, o, none⟩ := by
  refine World.cell?_of_block (a := ⟨b, o, none⟩) ?_
  show (_ : World).heap[b]? = _
  rw [heap_setCell_other _ _ _ _ h, heap_setCell_other _ _ _ _ h, heap_setCell_other _ _ _ _ h, heap_setCell_other _ _ _ _ h, heap_setCell_other _ _ _ _ h, heap_setCell_other _ _ _ _ h]
theorem row6_set {w : World} {Z : Nat} {a0 a1 a2 a3 a4 a5 : Value} {ty : TypeId} (h : w.heap[Z]? = some (.cells #[a0, a1, a2, a3, a4, a5] ty (0, 0))) (v0 v1 v2 v3 v4 v5 : Value) :
    ((((((w.setCell ⟨Z, 0, none⟩ v0).setCell ⟨Z, 1, none⟩ v1).setCell ⟨Z, 2, none⟩ v2).setCell ⟨Z, 3, none⟩ v3).setCell ⟨Z, 4, none⟩ v4).setCell ⟨Z, 5, none⟩ v5).heap[Z]? = some (.cells #[v0, v1, v2, v3, v4, v5] ty (0, 0)) := by
  have h0 := heap_setCell_same w Z 0 _ _ v0 h
  simp only [List.setIfInBounds_toArray, List.set_cons_zero, List.set_cons_succ] at h0
  have h1 := heap_setCell_same _ Z 1 _ _ v1 h0
  simp only [List.setIfInBounds_toArray, List.set_cons_zero, List.set_cons_succ] at h1
  have h2 := heap_setCell_same _ Z 2 _ _ v2 h1
  simp only [List.setIfInBounds_toArray, List.set_cons_zero, List.set_cons_succ] at h2
  have h3 := heap_setCell_same _ Z 3 _ _ v3 h2
  simp only [List.setIfInBounds_toArray, List.set_cons_zero, List.set_cons_succ] at h3
  have h4 := heap_setCell_same _ Z 4 _ _ v4 h3
  simp only [List.setIfInBounds_toArray, List.set_cons_zero, List.set_cons_succ] at h4
  have h5 := heap_setCell_same _ Z 5 _ _ v5 h4
  simp only [List.setIfInBounds_toArray, List.set_cons_zero, List.set_cons_succ] at h5
  exact h5
/-- A node whose children are yet to come, in a new block. -/
def NewN (wn wx : World) (Z : Nat) (kd nn u : Int) (s : List UInt8) (kv : Value) (ks : List (List UInt8)) : Prop :=
  Below wn.heap.size wn wx ∧ wn.heap.size ≤ Z ∧ wx.heap[Z]? = some (.cells #[.int .i64 kd, .int .i64 nn, .int .u64 u, .string ⟨s.toArray⟩, kv, .slice none 0 0] 38 (0, 0)) ∧ TxtRow wn.heap.size wx kv ks
theorem newN_a {wn w1 : World} {kd nn u : Int} {s : List UInt8} {kv : Value} {ks : List (List UInt8)} (hb : Below wn.drew.heap.size wn.drew w1) (ht : TxtRow wn.drew.heap.size w1 kv ks) :
    NewN wn (w1.alloc (.cells #[.int .i64 kd, .int .i64 nn, .int .u64 u, .string ⟨s.toArray⟩, kv, .slice none 0 0] 38)) w1.heap.size kd nn u s kv ks := by
  simp only [World.size_drew] at hb ht
  exact ⟨((Below.refl _ wn).drew.trans hb).alloc hb.size _, hb.size, heap_alloc_new _ _, ht.below ((Below.refl _ _).alloc (Nat.le_refl _) _)⟩
theorem newN_b {wn w1 : World} {a0 a1 a2 a3 a4 a5 : Value} {kd nn u : Int} {s : List UInt8} {kv : Value} {ks : List (List UInt8)} (hb : Below (wn.alloc (.cells #[a0, a1, a2, a3, a4, a5] 38)).drew.heap.size (wn.alloc (.cells #[a0, a1, a2, a3, a4, a5] 38)).drew w1) (ht : TxtRow (wn.alloc (.cells #[a0, a1, a2, a3, a4, a5] 38)).drew.heap.size w1 kv ks) :
    NewN wn ((((((w1.setCell ⟨wn.heap.size, 0, none⟩ (.int .i64 kd)).setCell ⟨wn.heap.size, 1, none⟩ (.int .i64 nn)).setCell ⟨wn.heap.size, 2, none⟩ (.int .u64 u)).setCell ⟨wn.heap.size, 3, none⟩ (.string ⟨s.toArray⟩)).setCell ⟨wn.heap.size, 4, none⟩ kv).setCell ⟨wn.heap.size, 5, none⟩ (.slice none 0 0)) wn.heap.size kd nn u s kv ks := by
  simp only [World.size_drew, World.size_alloc] at hb ht
  have hz := hb.size
  simp only [World.size_drew, World.size_alloc] at hz
  have hrow : w1.heap[wn.heap.size]? = some (.cells #[a0, a1, a2, a3, a4, a5] 38 (0, 0)) := (hb.block wn.heap.size (by omega)).trans (heap_alloc_new wn _)
  have hb0 : Below wn.heap.size wn w1 := (((Below.refl wn.heap.size wn).alloc (Nat.le_refl _) _).drew).trans (hb.mono (by omega))
  refine ⟨(((((hb0.setCell (p := ⟨wn.heap.size, 0, none⟩) (Nat.le_refl _) _).setCell (p := ⟨wn.heap.size, 1, none⟩) (Nat.le_refl _) _).setCell (p := ⟨wn.heap.size, 2, none⟩) (Nat.le_refl _) _).setCell (p := ⟨wn.heap.size, 3, none⟩) (Nat.le_refl _) _).setCell (p := ⟨wn.heap.size, 4, none⟩) (Nat.le_refl _) _).setCell (p := ⟨wn.heap.size, 5, none⟩) (Nat.le_refl _) _, Nat.le_refl _, row6_set hrow _ _ _ _ _ _, ?_⟩
  have hge := fun i hi => (ht.lt i (mem_blk.1 hi)).1
  have h0 : TxtRow wn.heap.size w1 kv ks := by
    refine ⟨ht.1, ?_⟩
    rcases ht.2 with hn | ⟨g, c, cur, h1, h2, rest⟩
    · exact .inl hn
    · exact .inr ⟨g, c, cur, h1, by omega, rest⟩
  refine own_same2 h0 fun i hi => ?_
  have := hge i hi
  have hne : i ≠ wn.heap.size := by omega
  rw [heap_setCell_other _ _ _ _ hne, heap_setCell_other _ _ _ _ hne, heap_setCell_other _ _ _ _ hne, heap_setCell_other _ _ _ _ hne, heap_setCell_other _ _ _ _ hne, heap_setCell_other _ _ _ _ hne]
theorem Touch.over {T : List Nat} {a W : World} (h : Touch T a W) {p : Addr} (hp : a.heap.size ≤ p.block) (v : Value) : Touch T a (W.setCell p v) :=
  ⟨h.os, h.tape, h.output, Nat.le_trans h.size (by simp), fun i hi hn => (heap_setCell_other W p i v (by omega)).trans (h.block i hi hn)⟩
theorem Kids.fresh {wr w' : World} {B : Nat} {ks : List (List UInt8)} {acc : List DT} {kv v : Value} {xs : List Value} {bl : List Nat} (h : Kids wr B ks acc kv v xs bl) (hs : ∀ i ∈ blkL kv ++ (blkL v ++ bl), w'.heap[i]? = wr.heap[i]?) (kd nn u : Int) (s : List UInt8) :
    Fresh B w' (.mk kd nn u s ks acc) (.agg #[.int .i64 kd, .int .i64 nn, .int .u64 u, .string ⟨s.toArray⟩, kv, v]) := by
  have hk := h.same hs
  refine ⟨_, _, _, _, _, _, _, rfl, ?_, hk.nd, hk.ge⟩
  rw [NRep]
  exact ⟨kv, v, xs, bl, rfl, hk.k, hk.r, hk.n, rfl⟩
/-- What the loop over the children holds. -/
def CutSt (B : Nat) (wx wr : World) (ks : List (List UInt8)) (acc : List DT) (kv v : Value) : Prop :=
  ∃ xs bl, Kids wr B ks acc kv v xs bl ∧ (∀ i ∈ blkL v ++ bl, wx.heap.size ≤ i)
theorem TxtRow.kids {B : Nat} {w : World} {kv : Value} {ks : List (List UInt8)} (h : TxtRow B w kv ks) {B' : Nat} (hB : B' ≤ B) : CutSt B' w w ks [] kv (.slice none 0 0) := by
  refine ⟨[], [], ⟨h.own.1, World.ownsRow_nil _ _ _ _, by rw [NReps]; exact ⟨rfl, rfl⟩, ?_, ?_⟩, by simp [blkL, Value.ownBlock]⟩
  · have : blkL kv ++ (blkL (.slice none 0 0) ++ []) = blkL kv := by simp [blkL, Value.ownBlock]
    rw [this]
    unfold blkL
    cases kv.ownBlock <;> simp
  · intro i hi
    have : i ∈ blkL kv := by simpa [blkL, Value.ownBlock] using hi
    have := h.own.2 i this
    omega
theorem own_ne {w : World} {B : Nat} {v : Value} {ks : List (List UInt8)} {Z : Nat} {cs : Array Value} {fr : Nat × Nat} (h : TxtRow B w v ks) (hZ : w.heap[Z]? = some (.cells cs 38 fr)) : Z ∉ blkL v := by
  intro hm
  rcases h.2 with ⟨hn, -⟩ | ⟨g, c, cur, hv, hb, hg, rest⟩
  · subst hn
    simp [blkL, Value.ownBlock] at hm
  · subst hv
    have : Z = g := by simpa [blkL, Value.ownBlock] using hm
    subst this
    rw [hZ] at hg
    injection hg with hg
    injection hg with _ hg _
    exact absurd hg (by decide)
theorem seven_other {w : World} {Z Y i : Nat} (hZ : i ≠ Z) (hY : i ≠ Y) (v v0 v1 v2 v3 v4 v5 : Value) :
    (((((((w.setCell ⟨Z, 5, none⟩ v).setCell ⟨Y, 0, none⟩ v0).setCell ⟨Y, 1, none⟩ v1).setCell ⟨Y, 2, none⟩ v2).setCell ⟨Y, 3, none⟩ v3).setCell ⟨Y, 4, none⟩ v4).setCell ⟨Y, 5, none⟩ v5).heap[i]? = w.heap[i]? := by
  rw [heap_setCell_other _ _ _ _ hY, heap_setCell_other _ _ _ _ hY, heap_setCell_other _ _ _ _ hY, heap_setCell_other _ _ _ _ hY, heap_setCell_other _ _ _ _ hY, heap_setCell_other _ _ _ _ hY, heap_setCell_other _ _ _ _ hZ]
theorem seven_touch {T : List Nat} {a w : World} {Z Y : Nat} (h : Touch T a w) (hZ : a.heap.size ≤ Z) (hY : a.heap.size ≤ Y) (v v0 v1 v2 v3 v4 v5 : Value) :
    Touch T a (((((((w.setCell ⟨Z, 5, none⟩ v).setCell ⟨Y, 0, none⟩ v0).setCell ⟨Y, 1, none⟩ v1).setCell ⟨Y, 2, none⟩ v2).setCell ⟨Y, 3, none⟩ v3).setCell ⟨Y, 4, none⟩ v4).setCell ⟨Y, 5, none⟩ v5) :=
  ((((((h.over (p := ⟨Z, 5, none⟩) hZ _).over (p := ⟨Y, 0, none⟩) hY _).over (p := ⟨Y, 1, none⟩) hY _).over (p := ⟨Y, 2, none⟩) hY _).over (p := ⟨Y, 3, none⟩) hY _).over (p := ⟨Y, 4, none⟩) hY _).over (p := ⟨Y, 5, none⟩) hY _
theorem seven_below {B : Nat} {a w : World} {Z Y : Nat} (h : Below B a w) (hZ : B ≤ Z) (hY : B ≤ Y) (v v0 v1 v2 v3 v4 v5 : Value) :
    Below B a (((((((w.setCell ⟨Z, 5, none⟩ v).setCell ⟨Y, 0, none⟩ v0).setCell ⟨Y, 1, none⟩ v1).setCell ⟨Y, 2, none⟩ v2).setCell ⟨Y, 3, none⟩ v3).setCell ⟨Y, 4, none⟩ v4).setCell ⟨Y, 5, none⟩ v5) :=
  ((((((h.setCell (p := ⟨Z, 5, none⟩) hZ _).setCell (p := ⟨Y, 0, none⟩) hY _).setCell (p := ⟨Y, 1, none⟩) hY _).setCell (p := ⟨Y, 2, none⟩) hY _).setCell (p := ⟨Y, 3, none⟩) hY _).setCell (p := ⟨Y, 4, none⟩) hY _).setCell (p := ⟨Y, 5, none⟩) hY _
theorem Fresh.mono {B B' : Nat} {w : World} {T : DT} {v : Value} (h : Fresh B w T v) (hB : B' ≤ B) : Fresh B' w T v := by
  obtain ⟨x0, x1, x2, x3, x4, x5, bs, rfl, hn, hnd, hge⟩ := h
  exact ⟨_, _, _, _, _, _, bs, rfl, hn, hnd, fun i hi => Nat.le_trans hB (hge i hi)⟩
def CutC (long : Nat) (T : DT) : Prop := ∀ (w0 w : World) (R left : Nat) (x0 x1 x2 x3 x4 x5 : Value), RRep w0 T [x0, x1, x2, x3, x4, x5] → WfD T → Below w0.heap.size w0 w → w0.heap.size ≤ R → RoomRow w R left long → left ≤ 1048576 →
  Calls Tryz.prog 85 #[.pointer (some ⟨R, 0, none⟩), .agg #[x0, x1, x2, x3, x4, x5]] w fun e w' => (∃ v, e = .returned v ∧ Fresh w.heap.size w' (cutD long T left).1 v) ∧ Touch [R] w w' ∧ RoomRow w' R (cutD long T left).2 long
set_option maxRecDepth 100000 in
set_option maxHeartbeats 8000000 in
theorem cut_step (long : Nat) (hlong : long ≤ 1048576) (kd nn u : Int) (s : List UInt8) (ks : List (List UInt8)) (l : List DT) (ih : ∀ t ∈ l, CutC long t) : CutC long (.mk kd nn u s ks l) := by
  intro w0 w R left x0 x1 x2 x3 x4 x5 hx hwf hb hR hrow hleft
  obtain ⟨A1, c1, A2, c2, xs, hcs, hk, hl, hkids⟩ := hx.form
  simp only [List.cons.injEq, and_true] at hcs
  obtain ⟨rfl, rfl, rfl, rfl, rfl, rfl⟩ := hcs
  rw [WfD] at hwf
  obtain ⟨-, -, -, hsl, hkl, hwk⟩ := hwf
  obtain ⟨hRs, r0, r1, rf⟩ := hrow.cells
  have HT := Lib.hid (fun (W : World) (hW : Below w0.heap.size w0 W) => texts_any ks A1 c1 64 long w0 W hk hW hkl (by omega) hlong)
  have HS := Lib.hid (fun (W : World) => short_any s long hsl hlong W)
  have HK := Lib.hid hkids
  have HL := Lib.hid hl
  have HB := Lib.hid hb
  have HW := Lib.hid hwk
  have HI := Lib.hid ih
  have HR := Lib.hid hrow
  have hbd := hl.bound
  have hb0 := hb.size
  clear hk hl hkids hb hwk ih hkl hsl hx hrow
  unfold strV at HS ⊢
  obtain ⟨m, hm⟩ : ∃ m, m = l.length := ⟨_, rfl⟩
  rw [← hm] at hbd ⊢
  have HM := Lib.hid hm
  clear hm
  generalize hq : ks.length = q
  rw [hq] at HT
  clear hq
  go_enter Tryz.func85, Tryz.ntmps85
  go_wp2_with fail
  refine wp_named (fun wn => Below w.heap.size w wn ∧ w.heap.size + 1 < wn.heap.size ∧ wn.heap[w.heap.size]? = some (.cells #[.int .i64 kd, .int .i64 nn, .int .u64 u, .string ⟨s.toArray⟩, .slice A1 q c1, .slice A2 m c2] 38 (0, 0)) ∧ wn.heap[w.heap.size + 1]? = some (.cells #[.int .i64 0, .int .i64 0, .int .u64 0, .string ⟨#[]⟩, .slice none 0 0, .slice none 0 0] 38 (0, 0))) ⟨by exact zw, by simp, ?_, ?_⟩ ?_
  · exact (Below.heap_alloc _ _ _ (by simp)).trans (heap_alloc_new _ _)
  · have := heap_alloc_new (w.alloc (.cells #[.int .i64 kd, .int .i64 nn, .int .u64 u, .string ⟨s.toArray⟩, .slice A1 q c1, .slice A2 m c2] 38)) (.cells #[.int .i64 0, .int .i64 0, .int .u64 0, .string ⟨#[]⟩, .slice none 0 0, .slice none 0 0] 38)
    rw [World.size_alloc] at this
    exact this
  rintro wn ⟨hbn, hzn, hXn, hYn⟩
  have hRn := HR.out.below (hbn.mono (by omega))
  obtain ⟨gR, r0, r1, rf⟩ := hRn.cells
  have HRn := Lib.hid hRn
  have HBn := Lib.hid hbn
  have HXn := Lib.hid hXn
  have HYn := Lib.hid hYn
  have gX : w.heap.size < wn.heap.size := by omega
  have z0 : wn.cell? ⟨w.heap.size, 0, none⟩ = some (.int .i64 kd) := cell_of_row _ _ _ _ _ _ hXn
  have z1 : wn.cell? ⟨w.heap.size, 1, none⟩ = some (.int .i64 nn) := cell_of_row _ _ _ _ _ _ hXn
  have z2 : wn.cell? ⟨w.heap.size, 2, none⟩ = some (.int .u64 u) := cell_of_row _ _ _ _ _ _ hXn
  have z3 : wn.cell? ⟨w.heap.size, 3, none⟩ = some (.string ⟨s.toArray⟩) := cell_of_row _ _ _ _ _ _ hXn
  have z4 : wn.cell? ⟨w.heap.size, 4, none⟩ = some (.slice A1 q c1) := cell_of_row _ _ _ _ _ _ hXn
  clear hRn hbn hXn hYn HR
  go_cut [5] (fun s5 wx => ∃ Z Av nv cv, s5 = .pointer (some ⟨Z, 0, none⟩) ∧ NewN wn wx Z kd nn u (s.take long) (.slice Av nv cv) ((ks.take 64).map fun k => k.take long))
  case first =>
    go_region_held3 (fun w' => w'.cell? ⟨w.heap.size, 0, none⟩ = some (.int .i64 kd) ∧ w'.cell? ⟨w.heap.size, 1, none⟩ = some (.int .i64 nn) ∧ w'.cell? ⟨w.heap.size, 2, none⟩ = some (.int .u64 u) ∧ w'.cell? ⟨w.heap.size, 3, none⟩ = some (.string ⟨s.toArray⟩) ∧ w'.cell? ⟨w.heap.size, 4, none⟩ = some (.slice A1 q c1) ∧ w'.cell? ⟨R, 1, none⟩ = some (.int .i64 long)) (first | (with_reducible exact ⟨z0, z1, z2, z3, z4, r1⟩) | (with_reducible exact kS) | (with_reducible exact ⟨(set6_oth (by omega) _ _ _ _ _ _ _).trans kS.1, (set6_oth (by omega) _ _ _ _ _ _ _).trans kS.2.1, (set6_oth (by omega) _ _ _ _ _ _ _).trans kS.2.2.1, (set6_oth (by omega) _ _ _ _ _ _ _).trans kS.2.2.2.1, (set6_oth (by omega) _ _ _ _ _ _ _).trans kS.2.2.2.2.1, (set6_oth (by omega) _ _ _ _ _ _ _).trans kS.2.2.2.2.2⟩) | (with_reducible exact ⟨cell_al gX1 kS.1 _, cell_al gX1 kS.2.1 _, cell_al gX1 kS.2.2.1 _, cell_al gX1 kS.2.2.2.1 _, cell_al gX1 kS.2.2.2.2.1 _, cell_al gR1 kS.2.2.2.2.2 _⟩) | go_keep) ((first | (go_at_call 18; refine (HS.out _).mono ?_; rintro e w1 ⟨rfl, rfl⟩) | (go_at_call 124; refine (HT.out _ (HB.out.trans ((HBn.out.trans (by first | exact zb0 _ _ | exact zb2 (zb0 _ _) | exact zb3 (zb0 _ _) _ | exact zb1 (zb0 _ _) (by simp; omega) _ | exact zb1 (zb2 (zb0 _ _)) (by simp; omega) _)).mono hb0))).mono ?_; rintro e w1 ⟨⟨v1, rfl, ht1⟩, hb1⟩; obtain ⟨Av, nv, cv, rfl⟩ := owns_sl ht1; obtain ⟨hc1, hf1, hl1⟩ := bcell hb1; (try simp only [zdz] at hc1 hf1 hl1); have hz1 := hb1.size; (try simp only [zsz] at hz1); have gX1 : w.heap.size < w1.heap.size := (by omega); have gR1 : R < w1.heap.size := (by omega); have kS : w1.cell? ⟨w.heap.size, 0, none⟩ = some (.int .i64 kd) ∧ w1.cell? ⟨w.heap.size, 1, none⟩ = some (.int .i64 nn) ∧ w1.cell? ⟨w.heap.size, 2, none⟩ = some (.int .u64 u) ∧ w1.cell? ⟨w.heap.size, 3, none⟩ = some (.string ⟨s.toArray⟩) ∧ w1.cell? ⟨w.heap.size, 4, none⟩ = some (.slice A1 q c1) ∧ w1.cell? ⟨R, 1, none⟩ = some (.int .i64 long) := ⟨(hc1 _ _ (by first | exact gX | exact lt_al gX _)).trans (by first | exact z0 | exact cell_al gX z0 _), (hc1 _ _ (by first | exact gX | exact lt_al gX _)).trans (by first | exact z1 | exact cell_al gX z1 _), (hc1 _ _ (by first | exact gX | exact lt_al gX _)).trans (by first | exact z2 | exact cell_al gX z2 _), (hc1 _ _ (by first | exact gX | exact lt_al gX _)).trans (by first | exact z3 | exact cell_al gX z3 _), (hc1 _ _ (by first | exact gX | exact lt_al gX _)).trans (by first | exact z4 | exact cell_al gX z4 _), (hc1 _ _ (by first | exact gR | exact lt_al gR _)).trans (by first | exact r1 | exact cell_al gR r1 _)⟩)))
    all_goals (go_wp2_with fail; go_meet)
    all_goals first | (with_reducible exact ⟨_, _, _, _, rfl, newN_a hb1 ht1⟩) | (with_reducible exact ⟨_, _, _, _, rfl, newN_b hb1 ht1⟩)
  case rest =>
  obtain ⟨Z, Av, nv, cv, rfl, hN⟩ := hcut
  go_upto_region 3 with fail
  refine wp_named (fun wx => NewN wn wx Z kd nn u (s.take long) (.slice Av nv cv) ((ks.take 64).map fun k => k.take long)) hN ?_
  clear hN
  rintro wx ⟨hbx, hZ, hZr, htx⟩
  obtain ⟨i0, hi, hz0, hz1, hz2⟩ := info_parts nodeInfo
  have hszx := hbx.size
  have hZx : Z < wx.heap.size := (Array.getElem?_eq_some_iff.1 hZr).1
  have HZ := Lib.hid hZr
  have HX := Lib.hid ((hbx.block _ gX).trans HXn.out)
  have HY := Lib.hid ((hbx.block _ hzn).trans HYn.out)
  have HRX := Lib.hid (HRn.out.below hbx)
  have HTX := Lib.hid htx
  have HBX := Lib.hid (HBn.out.trans (hbx.mono (Nat.le_of_lt (by omega : w.heap.size < wn.heap.size))))
  have HNE := Lib.hid (own_ne htx hZr)
  clear z0 z1 z2 z3 z4 r0 r1 rf HXn HYn HRn HBn htx hZr hbx HS HT
  go_wp2_with fail
  go_loopw [6, 7] (fun v i wr => ∃ k : Nat, k ≤ m ∧ i = .int .i64 k ∧ (cutsD long (l.take k) left).1.length = k ∧ CutSt w.heap.size wx wr ((ks.take 64).map fun k => k.take long) (cutsD long (l.take k) left).1 (.slice Av nv cv) v ∧ Touch [R] wx wr ∧ RoomRow wr R (cutsD long (l.take k) left).2 long) (fun _ i _ => m - (intOf i).toNat)
  case atStart => exact ⟨0, by omega, rfl, by rw [List.take_zero, cutsD]; rfl, by rw [List.take_zero, cutsD]; exact HTX.out.kids (by omega), Touch.refl _ _, by rw [List.take_zero, cutsD]; exact HRX.out⟩
  case round =>
    obtain ⟨k, hk, rfl, hlen, ⟨xs2, bl, hkids, hbl⟩, htr, hrr⟩ := hrel
    have hsz := cutsD_size long (l.take k) left
    have hgo1 := cutsD_go long l left k
    have hst1 := cutsD_stop long l left k (by rw [← HM.out]; exact hk) hlen
    have hsn := sizesD_nonneg (cutsD long (l.take k) left).1
    obtain ⟨lf, hlf⟩ : ∃ lf, lf = (cutsD long (l.take k) left).2 := ⟨_, rfl⟩
    rw [← hlf] at hrr hgo1 hst1 hsz
    obtain ⟨acc, hacc⟩ : ∃ acc, acc = (cutsD long (l.take k) left).1 := ⟨_, rfl⟩
    rw [← hacc] at hkids hgo1 hlen hsn hsz
    have hlf2 : lf ≤ 1048576 := by omega
    have hacl : acc.length ≤ 1048576 := by have := kids_size acc; omega
    have HGO := Lib.hid hgo1
    have HST := Lib.hid hst1
    have HPR := Lib.hid (show cutsD long (l.take k) left = (acc, lf) by rw [hacc, hlf])
    obtain ⟨A3, c3, rfl⟩ := owns_ptr hkids.r
    have hXr := (htr.block _ (by omega) (by simp; omega)).trans HX.out
    have hYr := (htr.block _ (by omega) (by simp; omega)).trans HY.out
    have hZr := (htr.block _ hZx (by simp; omega)).trans HZ.out
    have hzr := htr.size
    obtain ⟨gR, r0, r1, rf⟩ := hrr.cells
    have x5 : wr.cell? ⟨w.heap.size, 5, none⟩ = some (.slice A2 m c2) := cell_of_row _ _ _ _ _ _ hXr
    clear hgo1 hst1 hsz hsn hlf hacc
    have HLEN := Lib.hid hlen
    obtain rfl : acc.length = k := hlen
    by_cases hgo : acc.length < m ∧ 0 < lf
    · obtain ⟨g0, g1⟩ := hgo
      have d0 : decide ((acc.length : Int) < (m : Int)) = true := decide_eq_true (by omega)
      have d1 : decide ((0 : Int) < (lf : Int)) = true := decide_eq_true (by omega)
      have hkl : acc.length < l.length := by rw [← HM.out]; exact g0
      have hRd : Rd w0 (.slice A2 m c2) 6 l.length xs := by
        have := HL.out
        have e := HM.out
        rw [← e] at this ⊢
        exact this
      have hbw : Below w0.heap.size w0 wr := touch_old (HB.out.trans (HBX.out.mono hb0)) hR htr
      obtain ⟨b, o, kd', nn', uu', ss', A1', m1', c1', A2', m2', c2', rfl, hblt, hblr, hrep, p0, p1, p2, p3, p4, p5⟩ := HK.out.kid hRd hbw acc.length hkl
      have hbR : b ≠ R := by omega
      obtain ⟨f, rfl⟩ : ∃ f, lf = f + 1 := ⟨lf - 1, by omega⟩
      have QF : Hid (wrap64 (f : Int) = (f : Int)) := Lib.hid (by rw [← IntWalk.i64_left]; exact IntWalk.i64_in _ (by omega))
      have HC := Lib.hid (HI.out l[acc.length] (List.getElem_mem hkl) w0 (wr.setCell ⟨R, 0, none⟩ (.int .i64 f)) R f _ _ _ _ _ _ hrep (HW.out.at_ _ (List.getElem_mem hkl)) (touch_old hbw hR (Touch.setCell _ _ _ _)) hR (hrr.set f) (by omega))
      have HK2 := Lib.hid (hkids.touch (Touch.setCell wr R 0 (.int .i64 f)) hRs)
      have HTR := Lib.hid (htr.trans (Touch.setCell wr R 0 (.int .i64 f)))
      have HGO2 := Lib.hid (HGO.out hkl HLEN.out (by omega) hkl)
      rw [Nat.add_sub_cancel] at HGO2
      generalize cutD long l[acc.length] f = T' at *
      obtain ⟨T', f'⟩ := T'
      have HBL := Lib.hid hbl
      have H63 : Hid (acc.length + 1 ≤ maxLen) := Lib.hid (by unfold maxLen; omega)
      have HBY : Hid ((acc.length + 1) * 88 ≤ 140737488355328) := Lib.hid (by omega)
      clear hkids hXr hYr hZr htr hrr hrep HGO HST hRd hbw hlf2 hbl
      dsimp only at HC HGO2
      have qf := QF.out
      go_wp2_with (first | (go_at_call 85; refine HC.out.mono ?_; clear HC; rintro e w1 ⟨⟨v1, rfl, y0, y1, y2, y3, y4, y5, bs, rfl, hn1, hnd1, hge1⟩, ht1, hr1⟩; obtain ⟨kd1, nn1, uu1, s1, B1, m1, d1, B2, m2, d2, rfl, rfl, rfl, rfl, rfl, rfl⟩ := hn1.form2; have hn1 := Lib.hid hn1; have hge1 := Lib.hid hge1; have HR1 := Lib.hid hr1; have HT1 := Lib.hid ht1) | (at_builtin; refine wpList_append_where (P := Tryz.prog) _ rfl (.tmp 51) (.tmp 59) 36 rfl 38 i0 (.agg #[.int .i64 0, .int .i64 0, .int .u64 0, .string ⟨#[]⟩, .slice none 0 0, .slice none 0 0]) 6 88 Tryz.underlying36 hi hz0 hz1 hz2 rfl (by decide) (.slice A3 acc.length c3) acc.length xs2 rfl (own_below (HK2.out.touch HT1.out hRs).r ((Below.refl _ _).alloc (Nat.le_refl _) _)) ⟨w1.heap.size, 0, none⟩ 1 1 [.int .i64 kd1, .int .i64 nn1, .int .u64 uu1, .string s1, .slice B1 m1 d1, .slice B2 m2 d2] rfl rfl (row_at (heap_alloc_new _ _)) six_one H63.out HBY.out ?_; intro v' w3 ho hg hwh; obtain ⟨A', n', c', rfl⟩ := owns_sl ho))
      clear qf QF
      have hfin := Kids.push HK2.out hRs HT1.out hn1.out hnd1 hge1.out (by simp; omega) ((Below.refl w1.heap.size w1).alloc (Nat.le_refl _) (.cells #[.int .i64 kd1, .int .i64 nn1, .int .u64 uu1, .string s1, .slice B1 m1 d1, .slice B2 m2 d2] 38)) hg ho hwh
      have hz1 := HT1.out.size
      rw [World.size_setCell] at hz1
      have hb4 : ∀ i ∈ blkL (.slice A' n' c') ++ (bl ++ bs), wx.heap.size ≤ i := by
        intro i hi
        rcases List.mem_append.1 hi with h | h
        · rcases hwh with e | e
          · exact HBL.out i (List.mem_append.2 (.inl (by rw [mem_blk] at h ⊢; rw [← e]; exact h)))
          · have := (mem_blk.1 h).symm.trans e
            injection this with this
            simp at this
            omega
        · rcases List.mem_append.1 h with h | h
          · exact HBL.out i (List.mem_append.2 (.inr h))
          · have := hge1.out i h
            rw [World.size_setCell] at this
            omega
      have ht4 : Touch [R] wx w3 := touch_grown ((HTR.out.trans HT1.out).trans (Touch.quiet ((Below.refl _ _).alloc (Nat.le_refl _) _))) hg (fun k hk => HBL.out k (List.mem_append.2 (.inl (mem_blk.2 hk))))
      have hr4 : RoomRow w3 R f' long := by
        refine (hg.block R (by have := HR1.out.cells.1; simp; omega) (fun e => ?_)).trans (HR1.out.below ((Below.refl _ _).alloc (Nat.le_refl _) (.cells #[.int .i64 kd1, .int .i64 nn1, .int .u64 uu1, .string s1, .slice B1 m1 d1, .slice B2 m2 d2] 38)))
        have := HBL.out R (List.mem_append.2 (.inl (mem_blk.2 e.symm)))
        omega
      clear ho hg hwh
      go_roundw
      case rel => exact ⟨acc.length + 1, by omega, by go_num, by rw [HGO2.out]; simp, ⟨_, _, by rw [HGO2.out]; exact hfin, hb4⟩, ht4, by rw [HGO2.out]; exact hr4⟩
      case measure => simp only [intOf]; omega
    · have hcl : cutsD long l left = (acc, lf) := by
        have := HST.out (by
          rcases Nat.lt_or_ge acc.length m with h | h
          · right; omega
          · left; have := HM.out; omega)
        rw [this]
        exact HPR.out
      have HCL := Lib.hid hcl
      obtain ⟨n0, n1, n2, n3, n4, n5⟩ := cells6 hZr
      obtain ⟨y0, y1, y2, y3, y4, y5⟩ := cells6 hYr
      have fz5 : wr.frozen? ⟨Z, 5, none⟩ = false := frozen_of_row _ _ _ _ _ hZr
      have fy0 : wr.frozen? ⟨w.heap.size + 1, 0, none⟩ = false := frozen_of_row _ _ _ _ _ hYr
      have fy1 : wr.frozen? ⟨w.heap.size + 1, 1, none⟩ = false := frozen_of_row _ _ _ _ _ hYr
      have fy2 : wr.frozen? ⟨w.heap.size + 1, 2, none⟩ = false := frozen_of_row _ _ _ _ _ hYr
      have fy3 : wr.frozen? ⟨w.heap.size + 1, 3, none⟩ = false := frozen_of_row _ _ _ _ _ hYr
      have fy4 : wr.frozen? ⟨w.heap.size + 1, 4, none⟩ = false := frozen_of_row _ _ _ _ _ hYr
      have fy5 : wr.frozen? ⟨w.heap.size + 1, 5, none⟩ = false := frozen_of_row _ _ _ _ _ hYr
      have hZY : Z ≠ w.heap.size + 1 := by omega
      have gZ : Z < wr.heap.size := by omega
      have gY : w.heap.size + 1 < wr.heap.size := by omega
      have HKF := Lib.hid hkids
      have HTF := Lib.hid htr
      have HRF := Lib.hid hrr
      have HBL := Lib.hid hbl
      clear hkids htr hrr hXr hYr hZr HGO HST HPR hcl rf hbl
      by_cases g0 : acc.length < m
      case' pos =>
        have d0 : decide ((acc.length : Int) < (m : Int)) = true := decide_eq_true (by omega)
        have g1 : ¬ 0 < lf := by omega
        have d1 : decide ((0 : Int) < (lf : Int)) = false := decide_eq_false (by omega)
      case' neg =>
        have d0 : decide ((acc.length : Int) < (m : Int)) = false := decide_eq_false (by omega)
      all_goals
        clear hgo
        go_wp2_with fail
        (refine bodyPost_ret (v := .agg #[.int .i64 kd, .int .i64 nn, .int .u64 u, .string ⟨(s.take long).toArray⟩, .slice Av nv cv, .slice A3 acc.length c3]) (by simp [results, Tryz.results85, go_sem, *]) rfl ?_)
        refine ⟨⟨_, rfl, ?_⟩, seven_touch ((Touch.quiet HBX.out).trans HTF.out) (by omega) (by omega) _ _ _ _ _ _ _, ?_⟩
        · rw [cutD, HCL.out]
          refine HKF.out.fresh (fun i hi => seven_other ?_ ?_ _ _ _ _ _ _ _) _ _ _ _
          · rcases List.mem_append.1 hi with h | h
            · rintro rfl
              exact HNE.out h
            · have := HBL.out i h
              omega
          · rcases List.mem_append.1 hi with h | h
            · have := HTX.out.own.2 i h
              omega
            · have := HBL.out i h
              omega
        · rw [cutD, HCL.out]
          exact (seven_other (by omega) (by omega) _ _ _ _ _ _ _).trans HRF.out
theorem Fresh.six {B B' : Nat} {w : World} {T : DT} {v : Value} (h : Fresh B w T v) {Y : Nat} (hY : Y < B) (hB : B' ≤ B) (v0 v1 v2 v3 v4 v5 : Value) :
    Fresh B' ((((((w.setCell ⟨Y, 0, none⟩ v0).setCell ⟨Y, 1, none⟩ v1).setCell ⟨Y, 2, none⟩ v2).setCell ⟨Y, 3, none⟩ v3).setCell ⟨Y, 4, none⟩ v4).setCell ⟨Y, 5, none⟩ v5) T v := by
  obtain ⟨x0, x1, x2, x3, x4, x5, bs, rfl, hn, hnd, hge⟩ := h
  refine ⟨_, _, _, _, _, _, bs, rfl, hn.same _ _ _ fun i hi => ?_, hnd, fun i hi => Nat.le_trans hB (hge i hi)⟩
  exact (touch6 (Y := Y) v0 v1 v2 v3 v4 v5).block i (hn.bd _ _ _ i hi) (by have := hge i hi; simp; omega)
theorem below_six {B : Nat} {a w : World} (h : Below B a w) {Y : Nat} (hY : B ≤ Y) (v0 v1 v2 v3 v4 v5 : Value) :
    Below B a ((((((w.setCell ⟨Y, 0, none⟩ v0).setCell ⟨Y, 1, none⟩ v1).setCell ⟨Y, 2, none⟩ v2).setCell ⟨Y, 3, none⟩ v3).setCell ⟨Y, 4, none⟩ v4).setCell ⟨Y, 5, none⟩ v5) :=
  (((((h.setCell (p := ⟨Y, 0, none⟩) hY _).setCell (p := ⟨Y, 1, none⟩) hY _).setCell (p := ⟨Y, 2, none⟩) hY _).setCell (p := ⟨Y, 3, none⟩) hY _).setCell (p := ⟨Y, 4, none⟩) hY _).setCell (p := ⟨Y, 5, none⟩) hY _
theorem cut_all (long : Nat) (hlong : long ≤ 1048576) (T : DT) : CutC long T := DT.byKids (fun kd nn u s ks l ih => cut_step long hlong kd nn u s ks l ih) T
set_option maxRecDepth 100000 in
set_option maxHeartbeats 4000000 in
/-- R.Cut. -/
theorem cut_any (T : DT) (nodes long : Nat) (h1 : 1 ≤ nodes) (h2 : nodes ≤ 1048576) (hlong : long ≤ 1048576) (w : World) (x0 x1 x2 x3 x4 x5 : Value) (hx : RRep w T [x0, x1, x2, x3, x4, x5]) (hwf : WfD T) :
    Calls Tryz.prog 54 #[.agg #[x0, x1, x2, x3, x4, x5], .int .i64 nodes, .int .i64 long] w fun e w' => (∃ v, e = .returned v ∧ Fresh w.heap.size w' (cutD long T (nodes - 1)).1 v) ∧ Below w.heap.size w w' := by
  obtain ⟨kd, nn, u, s, A1, m1, c1, A2, m2, c2, hcs⟩ := hx.cs6
  simp only [List.cons.injEq, and_true] at hcs
  obtain ⟨rfl, rfl, rfl, rfl, rfl, rfl⟩ := hcs
  obtain ⟨n, rfl⟩ : ∃ n, nodes = n + 1 := ⟨nodes - 1, by omega⟩
  rw [Nat.add_sub_cancel]
  have HC := Lib.hid (fun (W : World) R (hb : Below w.heap.size w W) (hR : w.heap.size ≤ R) (hr : RoomRow W R n long) => cut_all long hlong T w W R n _ _ _ _ _ _ hx hwf hb hR hr (by omega))
  clear hx hwf
  generalize cutD long T n = T' at *
  obtain ⟨T', f'⟩ := T'
  dsimp only at HC ⊢
  have QF : Hid (wrap64 (n : Int) = (n : Int)) := Lib.hid (by rw [← IntWalk.i64_left]; exact IntWalk.i64_in _ (by omega))
  have qf := QF.out
  go_enter Tryz.func54, Tryz.ntmps54
  go_upto_region 2 with fail
  clear qf QF
  refine wp_named (fun wn => Below w.heap.size w wn ∧ RoomRow wn (w.heap.size + 1 + 1) n long ∧ w.heap.size + 1 + 1 < wn.heap.size ∧ wn.heap[w.heap.size]? = some (.cells #[.int .i64 kd, .int .i64 nn, .int .u64 u, .string s, .slice A1 m1 c1, .slice A2 m2 c2] 38 (0, 0)) ∧ wn.heap[w.heap.size + 1]? = some (.cells #[.int .i64 0, .int .i64 0, .int .u64 0, .string ⟨#[]⟩, .slice none 0 0, .slice none 0 0] 38 (0, 0))) ⟨by exact zw, ?_, by simp, ?_, ?_⟩ ?_
  · have := heap_alloc_new ((w.alloc (.cells #[.int .i64 kd, .int .i64 nn, .int .u64 u, .string s, .slice A1 m1 c1, .slice A2 m2 c2] 38)).alloc (.cells #[.int .i64 0, .int .i64 0, .int .u64 0, .string ⟨#[]⟩, .slice none 0 0, .slice none 0 0] 38)) (.cells #[.int .i64 n, .int .i64 long] 110)
    rw [World.size_alloc, World.size_alloc] at this
    exact this
  · exact (Below.heap_alloc _ _ _ (by simp; omega)).trans ((Below.heap_alloc _ _ _ (by simp)).trans (heap_alloc_new _ _))
  · have := heap_alloc_new (w.alloc (.cells #[.int .i64 kd, .int .i64 nn, .int .u64 u, .string s, .slice A1 m1 c1, .slice A2 m2 c2] 38)) (.cells #[.int .i64 0, .int .i64 0, .int .u64 0, .string ⟨#[]⟩, .slice none 0 0, .slice none 0 0] 38)
    rw [World.size_alloc] at this
    exact (Below.heap_alloc _ _ _ (by simp)).trans this
  rintro wn ⟨hb, hr, hz, hX, hY⟩
  obtain ⟨x0, x1, x2, x3, x4, x5⟩ := cells6 hX
  have HC2 := Lib.hid (HC.out wn (w.heap.size + 1 + 1) hb (by omega) hr)
  have HB := Lib.hid hb
  have HY := Lib.hid hY
  clear hX hb hr hY HC
  go_wp2_with fail
  refine HC2.out.mono ?_
  clear HC2
  rintro e w1 ⟨⟨v1, rfl, hf⟩, ht1, -⟩
  have HF := Lib.hid hf
  obtain ⟨y0, y1, y2, y3, y4, y5, bs, rfl, hn1, -, -⟩ := hf
  obtain ⟨kd1, nn1, uu1, s1, B1, m1, d1, B2, m2, d2, rfl, rfl, rfl, rfl, rfl, rfl⟩ := hn1.form2
  have hY1 := (ht1.block (w.heap.size + 1) (by omega) (by simp)).trans HY.out
  obtain ⟨q0, q1, q2, q3, q4, q5⟩ := cells6 hY1
  have fy0 : w1.frozen? ⟨w.heap.size + 1, 0, none⟩ = false := frozen_of_row _ _ _ _ _ hY1
  have fy1 : w1.frozen? ⟨w.heap.size + 1, 1, none⟩ = false := frozen_of_row _ _ _ _ _ hY1
  have fy2 : w1.frozen? ⟨w.heap.size + 1, 2, none⟩ = false := frozen_of_row _ _ _ _ _ hY1
  have fy3 : w1.frozen? ⟨w.heap.size + 1, 3, none⟩ = false := frozen_of_row _ _ _ _ _ hY1
  have fy4 : w1.frozen? ⟨w.heap.size + 1, 4, none⟩ = false := frozen_of_row _ _ _ _ _ hY1
  have fy5 : w1.frozen? ⟨w.heap.size + 1, 5, none⟩ = false := frozen_of_row _ _ _ _ _ hY1
  have hz1 := ht1.size
  have HT := Lib.hid ht1
  clear hY1 hn1 ht1 x0 x1 x2 x3 x4 x5
  go_wp2_with fail
  (refine bodyPost_ret (v := .agg #[.int .i64 kd1, .int .i64 nn1, .int .u64 uu1, .string s1, .slice B1 m1 d1, .slice B2 m2 d2]) (by simp [results, Tryz.results54, go_sem, *]) rfl ?_)
  exact ⟨⟨_, rfl, HF.out.six (by omega) (by omega) _ _ _ _ _ _⟩, below_six (touch_old HB.out (by omega) HT.out) (by omega) _ _ _ _ _ _⟩
end
end
section
section
open Go.RowKit
mutual
/-- The rows of a tree are short enough to be made anew. -/
def SmallD : DT → Prop
  | .mk _ _ _ _ ks l => ks.length ≤ 1048576 ∧ l.length ≤ 1048576 ∧ SmallDs l
def SmallDs : List DT → Prop
  | [] => True
  | t :: ts => SmallD t ∧ SmallDs ts
end
theorem SmallDs.at_ : ∀ {l : List DT}, SmallDs l → ∀ t ∈ l, SmallD t
  | t :: ts, h, x, hx => by
    rw [SmallDs] at h
    rcases List.mem_cons.1 hx with rfl | hx
    · exact h.1
    · exact SmallDs.at_ h.2 x hx
mutual
theorem short_small (long : Nat) : ∀ (T : DT), ShortD long T → sizeD T ≤ 1048576 → SmallD T
  | .mk kd n u s ks l, h, hz => by
    rw [ShortD] at h
    rw [sizeD] at hz
    rw [SmallD]
    have := kids_size l
    exact ⟨by omega, by omega, shorts_small long l h.2.2.2 (by omega)⟩
theorem shorts_small (long : Nat) : ∀ (l : List DT), ShortDs long l → sizesD l ≤ 1048576 → SmallDs l
  | [], _, _ => by rw [SmallDs]; trivial
  | t :: ts, h, hz => by
    rw [ShortDs] at h
    rw [sizesD] at hz
    rw [SmallDs]
    have := sizeD_pos t
    have := sizesD_nonneg ts
    exact ⟨short_small long t h.1 (by omega), shorts_small long ts h.2 (by omega)⟩
end
theorem cut_small (long : Nat) (T : DT) (left : Nat) (h : left ≤ 1048575) : SmallD (cutD long T left).1 :=
  short_small long _ (cutD_short long T left) (by have := cutD_size long T left; omega)
def CopyC (T : DT) : Prop := ∀ (w : World) (x0 x1 x2 x3 x4 x5 : Value), RRep w T [x0, x1, x2, x3, x4, x5] → SmallD T →
  Calls Tryz.prog 58 #[.agg #[x0, x1, x2, x3, x4, x5]] w fun e w' => (∃ v, e = .returned v ∧ Fresh w.heap.size w' T v) ∧ Below w.heap.size w w'
set_option maxRecDepth 100000 in
set_option maxHeartbeats 8000000 in
theorem copynode_step (kd nn u : Int) (s : List UInt8) (ks : List (List UInt8)) (l : List DT) (ih : ∀ t ∈ l, CopyC t) : CopyC (.mk kd nn u s ks l) := by
  intro w x0 x1 x2 x3 x4 x5 hx hwf
  obtain ⟨A1, c1, A2, c2, xs, hcs, hk, hl, hkids⟩ := hx.form
  simp only [List.cons.injEq, and_true] at hcs
  obtain ⟨rfl, rfl, rfl, rfl, rfl, rfl⟩ := hcs
  rw [SmallD] at hwf
  obtain ⟨hkl, hll, hwk⟩ := hwf
  have HT := Lib.hid (fun (W : World) (hW : Below w.heap.size w W) => copytexts_any ks A1 c1 W (hk.below hW) hkl)
  have HK := Lib.hid hkids
  have HL := Lib.hid hl
  have HW := Lib.hid hwk
  have HI := Lib.hid ih
  clear hk hl hkids hwk ih hkl hx
  unfold strV
  obtain ⟨m, hm⟩ : ∃ m, m = l.length := ⟨_, rfl⟩
  rw [← hm] at hll ⊢
  have HM := Lib.hid hm
  clear hm
  generalize hq : ks.length = q
  rw [hq] at HT
  clear hq
  go_enter Tryz.func58, Tryz.ntmps58
  go_upto_region 1 with fail
  refine wp_named (fun wn => Below w.heap.size w wn ∧ w.heap.size + 1 < wn.heap.size ∧ wn.heap[w.heap.size]? = some (.cells #[.int .i64 kd, .int .i64 nn, .int .u64 u, .string ⟨s.toArray⟩, .slice A1 q c1, .slice A2 m c2] 38 (0, 0)) ∧ wn.heap[w.heap.size + 1]? = some (.cells #[.int .i64 0, .int .i64 0, .int .u64 0, .string ⟨#[]⟩, .slice none 0 0, .slice none 0 0] 38 (0, 0))) ⟨by exact zw, by simp, ?_, ?_⟩ ?_
  · exact (Below.heap_alloc _ _ _ (by simp)).trans (heap_alloc_new _ _)
  · have := heap_alloc_new (w.alloc (.cells #[.int .i64 kd, .int .i64 nn, .int .u64 u, .string ⟨s.toArray⟩, .slice A1 q c1, .slice A2 m c2] 38)) (.cells #[.int .i64 0, .int .i64 0, .int .u64 0, .string ⟨#[]⟩, .slice none 0 0, .slice none 0 0] 38)
    rw [World.size_alloc] at this
    exact this
  rintro wn ⟨hbn, hzn, hXn, hYn⟩
  have HBn := Lib.hid hbn
  have HXn := Lib.hid hXn
  have HYn := Lib.hid hYn
  have gX : w.heap.size < wn.heap.size := by omega
  obtain ⟨z0, z1, z2, z3, z4, z5⟩ := cells6 hXn
  clear hbn hXn hYn z5
  go_cut [3] (fun s3 wx => ∃ Z Av nv cv, s3 = .pointer (some ⟨Z, 0, none⟩) ∧ NewN wn wx Z kd nn u s (.slice Av nv cv) ks)
  case first =>
    go_region_held3 (fun w' => w'.cell? ⟨w.heap.size, 0, none⟩ = some (.int .i64 kd) ∧ w'.cell? ⟨w.heap.size, 1, none⟩ = some (.int .i64 nn) ∧ w'.cell? ⟨w.heap.size, 2, none⟩ = some (.int .u64 u) ∧ w'.cell? ⟨w.heap.size, 3, none⟩ = some (.string ⟨s.toArray⟩) ∧ w'.cell? ⟨w.heap.size, 4, none⟩ = some (.slice A1 q c1)) (first | (with_reducible exact ⟨z0, z1, z2, z3, z4⟩) | (with_reducible exact kS) | (with_reducible exact ⟨(set6_oth (by omega) _ _ _ _ _ _ _).trans kS.1, (set6_oth (by omega) _ _ _ _ _ _ _).trans kS.2.1, (set6_oth (by omega) _ _ _ _ _ _ _).trans kS.2.2.1, (set6_oth (by omega) _ _ _ _ _ _ _).trans kS.2.2.2.1, (set6_oth (by omega) _ _ _ _ _ _ _).trans kS.2.2.2.2⟩) | (with_reducible exact ⟨cell_al gX1 kS.1 _, cell_al gX1 kS.2.1 _, cell_al gX1 kS.2.2.1 _, cell_al gX1 kS.2.2.2.1 _, cell_al gX1 kS.2.2.2.2 _⟩) | go_keep) ((go_at_call 88; refine (HT.out _ (HBn.out.trans ((by first | exact zb0 _ _ | exact zb2 (zb0 _ _) | exact zb3 (zb0 _ _) _ | exact zb1 (zb0 _ _) (by simp) _ | exact zb1 (zb2 (zb0 _ _)) (by simp) _ | exact zb2 (zb1 (zb0 _ _) (by simp) _) : Below wn.heap.size wn _).mono (Nat.le_of_lt gX)))).mono ?_; rintro e w1 ⟨⟨v1, rfl, ht1⟩, hb1⟩; obtain ⟨Av, nv, cv, rfl⟩ := owns_sl ht1; obtain ⟨hc1, hf1, hl1⟩ := bcell hb1; (try simp only [zdz] at hc1 hf1 hl1); have hz1 := hb1.size; (try simp only [zsz] at hz1); have gX1 : w.heap.size < w1.heap.size := (by omega); have kS : w1.cell? ⟨w.heap.size, 0, none⟩ = some (.int .i64 kd) ∧ w1.cell? ⟨w.heap.size, 1, none⟩ = some (.int .i64 nn) ∧ w1.cell? ⟨w.heap.size, 2, none⟩ = some (.int .u64 u) ∧ w1.cell? ⟨w.heap.size, 3, none⟩ = some (.string ⟨s.toArray⟩) ∧ w1.cell? ⟨w.heap.size, 4, none⟩ = some (.slice A1 q c1) := ⟨(hc1 _ _ (by first | exact gX | exact lt_al gX _)).trans (by first | exact z0 | exact cell_al gX z0 _), (hc1 _ _ (by first | exact gX | exact lt_al gX _)).trans (by first | exact z1 | exact cell_al gX z1 _), (hc1 _ _ (by first | exact gX | exact lt_al gX _)).trans (by first | exact z2 | exact cell_al gX z2 _), (hc1 _ _ (by first | exact gX | exact lt_al gX _)).trans (by first | exact z3 | exact cell_al gX z3 _), (hc1 _ _ (by first | exact gX | exact lt_al gX _)).trans (by first | exact z4 | exact cell_al gX z4 _)⟩))
    all_goals (go_wp2_with fail; go_meet)
    all_goals first | (with_reducible exact ⟨_, _, _, _, rfl, newN_a hb1 ht1⟩) | (with_reducible exact ⟨_, _, _, _, rfl, newN_b hb1 ht1⟩)
  case rest =>
  obtain ⟨Z, Av, nv, cv, rfl, hN⟩ := hcut
  go_upto_region 3 with fail
  refine wp_named (fun wx => NewN wn wx Z kd nn u s (.slice Av nv cv) ks) hN ?_
  clear hN
  rintro wx ⟨hbx, hZ, hZr, htx⟩
  obtain ⟨i0, hi, hz0, hz1, hz2⟩ := info_parts nodeInfo
  have hszx := hbx.size
  have hZx : Z < wx.heap.size := (Array.getElem?_eq_some_iff.1 hZr).1
  have HZ := Lib.hid hZr
  have HX := Lib.hid ((hbx.block _ gX).trans HXn.out)
  have HY := Lib.hid ((hbx.block _ hzn).trans HYn.out)
  have HTX := Lib.hid htx
  have HBX := Lib.hid (HBn.out.trans (hbx.mono (Nat.le_of_lt gX)))
  have HNE := Lib.hid (own_ne htx hZr)
  clear z0 z1 z2 z3 z4 HXn HYn HBn htx hZr hbx HT
  go_wp2_with fail
  go_loopw [4, 5] (fun v i wr => ∃ k : Nat, k ≤ m ∧ i = .int .i64 k ∧ CutSt (w.heap.size + 1) wx wr ks (l.take k) (.slice Av nv cv) v ∧ Below wx.heap.size wx wr) (fun _ i _ => m - (intOf i).toNat)
  case atStart => exact ⟨0, by omega, rfl, by rw [List.take_zero]; exact HTX.out.kids (by omega), Below.refl _ _⟩
  case round =>
    obtain ⟨k, hk, rfl, ⟨xs2, bl, hkids, hbl⟩, htr⟩ := hrel
    obtain ⟨acc, hacc⟩ : ∃ acc, acc = l.take k := ⟨_, rfl⟩
    rw [← hacc] at hkids
    have hlen : acc.length = k := by rw [hacc, List.length_take, ← HM.out]; omega
    obtain ⟨A3, c3, rfl⟩ := owns_ptr hkids.r
    have hXr := (htr.block _ (by omega)).trans HX.out
    have hYr := (htr.block _ (by omega)).trans HY.out
    have hZr := (htr.block _ hZx).trans HZ.out
    have hzr := htr.size
    have x5 : wr.cell? ⟨w.heap.size, 5, none⟩ = some (.slice A2 m c2) := cell_of_row _ _ _ _ _ _ hXr
    have HACC := Lib.hid hacc
    clear hacc
    obtain rfl : acc.length = k := hlen
    by_cases g0 : acc.length < m
    · have d0 : decide ((acc.length : Int) < (m : Int)) = true := decide_eq_true (by omega)
      have hkl : acc.length < l.length := by rw [← HM.out]; exact g0
      have hRd : Rd w (.slice A2 m c2) 6 l.length xs := by
        have := HL.out
        have e := HM.out
        rw [← e] at this ⊢
        exact this
      have hbw : Below w.heap.size w wr := HBX.out.trans (htr.mono (by omega))
      obtain ⟨b, o, kd', nn', uu', ss', A1', m1', c1', A2', m2', c2', rfl, hblt, hblr, hrep, p0, p1, p2, p3, p4, p5⟩ := HK.out.kid hRd hbw acc.length hkl
      have HC := Lib.hid (HI.out l[acc.length] (List.getElem_mem hkl) wr _ _ _ _ _ _ (RRep.below hbw _ _ hrep) (HW.out.at_ _ (List.getElem_mem hkl)))
      have HK2 := Lib.hid hkids
      have HTR := Lib.hid htr
      have HGO2 := Lib.hid (show l.take (acc.length + 1) = acc ++ [l[acc.length]] by rw [List.take_succ_eq_append_getElem hkl, ← HACC.out])
      generalize l[acc.length] = T' at *
      have HBL := Lib.hid hbl
      have H63 : Hid (acc.length + 1 ≤ maxLen) := Lib.hid (by unfold maxLen; omega)
      have HBY : Hid ((acc.length + 1) * 88 ≤ 140737488355328) := Lib.hid (by omega)
      clear hkids hXr hYr hZr htr hrep hRd hbw hbl
      go_wp2_with (first | (go_at_call 58; refine HC.out.mono ?_; clear HC; rintro e w1 ⟨⟨v1, rfl, y0, y1, y2, y3, y4, y5, bs, rfl, hn1, hnd1, hge1⟩, hb1⟩; obtain ⟨kd1, nn1, uu1, s1, B1, m1, d1, B2, m2, d2, rfl, rfl, rfl, rfl, rfl, rfl⟩ := hn1.form2; have hn1 := Lib.hid hn1; have hge1 := Lib.hid hge1; have HT1 := Lib.hid hb1; clear hb1) | (at_builtin; refine wpList_append_where (P := Tryz.prog) _ rfl (.tmp 25) (.tmp 32) 36 rfl 38 i0 (.agg #[.int .i64 0, .int .i64 0, .int .u64 0, .string ⟨#[]⟩, .slice none 0 0, .slice none 0 0]) 6 88 Tryz.underlying36 hi hz0 hz1 hz2 rfl (by decide) (.slice A3 acc.length c3) acc.length xs2 rfl (own_below (HK2.out.touch (lk := w.heap.size) (Touch.quiet HT1.out) (by omega)).r ((Below.refl _ _).alloc (Nat.le_refl _) _)) ⟨w1.heap.size, 0, none⟩ 1 1 [.int .i64 kd1, .int .i64 nn1, .int .u64 uu1, .string s1, .slice B1 m1 d1, .slice B2 m2 d2] rfl rfl (row_at (heap_alloc_new _ _)) six_one H63.out HBY.out ?_; intro v' w3 ho hg hwh; obtain ⟨A', n', c', rfl⟩ := owns_sl ho))
      have hfin := Kids.push (lk := w.heap.size) HK2.out (by omega) (Touch.quiet HT1.out) hn1.out hnd1 hge1.out (by omega) ((Below.refl w1.heap.size w1).alloc (Nat.le_refl _) (.cells #[.int .i64 kd1, .int .i64 nn1, .int .u64 uu1, .string s1, .slice B1 m1 d1, .slice B2 m2 d2] 38)) hg ho hwh
      have hz1 := HT1.out.size
      have hb4 : ∀ i ∈ blkL (.slice A' n' c') ++ (bl ++ bs), wx.heap.size ≤ i := by
        intro i hi
        rcases List.mem_append.1 hi with h | h
        · rcases hwh with e | e
          · exact HBL.out i (List.mem_append.2 (.inl (by rw [mem_blk] at h ⊢; rw [← e]; exact h)))
          · have := (mem_blk.1 h).symm.trans e
            injection this with this
            simp at this
            omega
        · rcases List.mem_append.1 h with h | h
          · exact HBL.out i (List.mem_append.2 (.inr h))
          · have := hge1.out i h
            omega
      have ht4 : Below wx.heap.size wx w3 := ((HTR.out.trans (HT1.out.mono hzr)).alloc (Nat.le_trans hzr hz1) _).grown hg (by simp; omega) (fun k hk => HBL.out k (List.mem_append.2 (.inl (mem_blk.2 hk))))
      clear ho hg hwh
      go_roundw
      case rel => exact ⟨acc.length + 1, by omega, by go_num, ⟨_, _, by rw [HGO2.out]; exact hfin, hb4⟩, ht4⟩
      case measure => simp only [intOf]; omega
    · have hcl : l = acc := by
        rw [HACC.out]
        have := HM.out
        rw [List.take_of_length_le (by omega)]
      have HCL := Lib.hid hcl
      obtain ⟨n0, n1, n2, n3, n4, n5⟩ := cells6 hZr
      obtain ⟨y0, y1, y2, y3, y4, y5⟩ := cells6 hYr
      have fz5 : wr.frozen? ⟨Z, 5, none⟩ = false := frozen_of_row _ _ _ _ _ hZr
      have fy0 : wr.frozen? ⟨w.heap.size + 1, 0, none⟩ = false := frozen_of_row _ _ _ _ _ hYr
      have fy1 : wr.frozen? ⟨w.heap.size + 1, 1, none⟩ = false := frozen_of_row _ _ _ _ _ hYr
      have fy2 : wr.frozen? ⟨w.heap.size + 1, 2, none⟩ = false := frozen_of_row _ _ _ _ _ hYr
      have fy3 : wr.frozen? ⟨w.heap.size + 1, 3, none⟩ = false := frozen_of_row _ _ _ _ _ hYr
      have fy4 : wr.frozen? ⟨w.heap.size + 1, 4, none⟩ = false := frozen_of_row _ _ _ _ _ hYr
      have fy5 : wr.frozen? ⟨w.heap.size + 1, 5, none⟩ = false := frozen_of_row _ _ _ _ _ hYr
      have hZY : Z ≠ w.heap.size + 1 := by omega
      have gZ : Z < wr.heap.size := by omega
      have gY : w.heap.size + 1 < wr.heap.size := by omega
      have HKF := Lib.hid hkids
      have HTF := Lib.hid htr
      have HBL := Lib.hid hbl
      clear hkids htr hXr hYr hZr hcl hbl HACC
      have d0 : decide ((acc.length : Int) < (m : Int)) = false := decide_eq_false (by omega)
      go_wp2_with fail
      (refine bodyPost_ret (v := .agg #[.int .i64 kd, .int .i64 nn, .int .u64 u, .string ⟨s.toArray⟩, .slice Av nv cv, .slice A3 acc.length c3]) (by simp [results, Tryz.results58, go_sem, *]) rfl ?_)
      refine ⟨⟨_, rfl, ?_⟩, seven_below (HBX.out.trans (HTF.out.mono (by omega))) (by omega) (by omega) _ _ _ _ _ _ _⟩
      rw [HCL.out]
      refine (HKF.out.fresh (fun i hi => seven_other ?_ ?_ _ _ _ _ _ _ _) _ _ _ _).mono (by omega)
      · rcases List.mem_append.1 hi with h | h
        · rintro rfl
          exact HNE.out h
        · have := HBL.out i h
          omega
      · rcases List.mem_append.1 hi with h | h
        · have := HTX.out.own.2 i h
          omega
        · have := HBL.out i h
          omega
/-- R.CopyNode. -/
theorem copynode_any (T : DT) : CopyC T := DT.byKids (fun kd nn u s ks l ih => copynode_step kd nn u s ks l ih) T
end
end
section
section
open Go.RowKit
set_option maxRecDepth 100000 in
set_option maxHeartbeats 4000000 in
theorem clone_texts (ks : List (List UInt8)) (A : Option Addr) (c : Nat) (w : World) (h : Rd w (.slice A ks.length c) 1 ks.length (ks.map strV)) (hn : ks.length ≤ 1048576) :
    Calls Tryz.prog 87 #[.slice A ks.length c] w fun e w' => (∃ v, e = .returned v ∧ TxtRow w.heap.size w' v ks) ∧ Below w.heap.size w w' := by
  obtain ⟨i0, hi, hz0, hz1, hz2⟩ := info_parts strInfo
  have q24 : ∀ (w : World) (a : Option Addr) (n c n' c' : Nat), (binOp .eql 35 (.slice a n c) (.slice none n' c')).run Tryz.prog w = .ok (.bool a.isNone) w := fun w a n c n' c' => Lib.run_eql_slice_nil w _ _ a n c n' c' Tryz.underlying35
  have u24 : ∀ w, Sem.run Tryz.prog (underlying 35) w = .ok (TypeDesc.slice 9) w := run_underlying Tryz.underlying35
  cases A with
  | none =>
    obtain ⟨h1, h2, rfl⟩ := h.nil
    obtain rfl : ks = [] := List.eq_nil_of_length_eq_zero h2
    clear h h1 h2
    rw [List.length_nil]
    go_enter Tryz.func87, Tryz.ntmps87
    go_wp2
    go_returns
    exact ⟨⟨_, rfl, TxtRow.nil _ _⟩, Below.refl _ _⟩
  | some x =>
    have hc : ∀ j, j < ks.length → w.cell? (x.add j) = (ks.map strV)[j]? ∧ (x.add j).block < w.heap.size := by
      intro j hj
      obtain ⟨b, o, e, hlt, hc⟩ := h.cells (by omega)
      injection e with e
      subst e
      rw [add_off]
      exact ⟨hc j (by omega), hlt⟩
    have HC := Lib.hid hc
    obtain ⟨n, hnn⟩ : ∃ n, n = ks.length := ⟨_, rfl⟩
    rw [← hnn] at hn ⊢
    have HN := Lib.hid hnn
    clear h hc hnn
    go_enter Tryz.func87, Tryz.ntmps87
    go_wp2_with (at_builtin; refine wpList_append_own _ rfl _ _ 35 rfl w.heap.size 9 i0 (.string ⟨#[]⟩) 1 16 Tryz.underlying35 hi hz0 hz1 hz2 rfl (by decide) _ _ _ rfl (World.ownsRow_made w #[] 0 (Nat.le_refl _) (Nat.zero_le _) rfl) x n c (ks.map strV) rfl ?c1 ?c2 ?c3 ?c4 ?c5 ?c6 ?_)
    case c1 => rw [List.length_map, HN.out, Nat.mul_one]
    case c2 =>
      intro j u hj
      have hjl : j < ks.length := by
        have := (List.getElem?_eq_some_iff.1 hj).1
        rwa [List.length_map] at this
      obtain ⟨e1, e2⟩ := HC.out j hjl
      exact (((Below.refl w.heap.size w).alloc (Nat.le_refl _) _).cell e2).trans (e1.trans hj)
    case c3 =>
      intro u hu
      obtain ⟨y, -, rfl⟩ := List.mem_map.1 hu
      rfl
    case c4 => unfold maxLen; omega
    case c5 => omega
    case c6 => simp
    intro v' w' hown hgrow _
    have hfin : TxtRow w.heap.size w' v' ks := by
      unfold TxtRow
      have := HN.out
      rw [this] at hown
      simpa using hown
    have hbt := Lib.hid hfin
    have hbl := Lib.hid (((Below.refl w.heap.size w).alloc (Nat.le_refl _) _).grown hgrow (by simp) (by intro k hk; simp [Value.ownBlock] at hk; omega))
    clear hown hgrow hfin
    go_wp2
    go_ret
    exact ⟨⟨_, rfl, hbt.out⟩, hbl.out⟩
def TCopyC (T : DT) : Prop := ∀ (w : World) (x0 x1 x2 x3 x4 x5 : Value), RRep w T [x0, x1, x2, x3, x4, x5] → SmallD T →
  Calls Tryz.prog 56 #[.agg #[x0, x1, x2, x3, x4, x5]] w fun e w' => (∃ v, e = .returned v ∧ Fresh w.heap.size w' T v) ∧ Below w.heap.size w w'
set_option maxRecDepth 100000 in
set_option maxHeartbeats 8000000 in
theorem tcopy_step (kd nn u : Int) (s : List UInt8) (ks : List (List UInt8)) (l : List DT) (ih : ∀ t ∈ l, TCopyC t) : TCopyC (.mk kd nn u s ks l) := by
  intro w x0 x1 x2 x3 x4 x5 hx hwf
  obtain ⟨A1, c1, A2, c2, xs, hcs, hk, hl, hkids⟩ := hx.form
  simp only [List.cons.injEq, and_true] at hcs
  obtain ⟨rfl, rfl, rfl, rfl, rfl, rfl⟩ := hcs
  rw [SmallD] at hwf
  obtain ⟨hkl, hll, hwk⟩ := hwf
  have HT := Lib.hid (fun (W : World) (hW : Below w.heap.size w W) => clone_texts ks A1 c1 W (hk.below hW) hkl)
  have HK := Lib.hid hkids
  have HL := Lib.hid hl
  have HW := Lib.hid hwk
  have HI := Lib.hid ih
  clear hk hl hkids hwk ih hkl hx
  unfold strV
  obtain ⟨m, hm⟩ : ∃ m, m = l.length := ⟨_, rfl⟩
  rw [← hm] at hll ⊢
  have HM := Lib.hid hm
  clear hm
  generalize hq : ks.length = q
  rw [hq] at HT
  clear hq
  go_enter Tryz.func56, Tryz.ntmps56
  go_upto_region 1 with fail
  refine wp_named (fun wn => Below w.heap.size w wn ∧ w.heap.size + 1 < wn.heap.size ∧ wn.heap[w.heap.size]? = some (.cells #[.int .i64 kd, .int .i64 nn, .int .u64 u, .string ⟨s.toArray⟩, .slice A1 q c1, .slice A2 m c2] 38 (0, 0)) ∧ wn.heap[w.heap.size + 1]? = some (.cells #[.int .i64 0, .int .i64 0, .int .u64 0, .string ⟨#[]⟩, .slice none 0 0, .slice none 0 0] 38 (0, 0))) ⟨by exact zw, by simp, ?_, ?_⟩ ?_
  · exact (Below.heap_alloc _ _ _ (by simp)).trans (heap_alloc_new _ _)
  · have := heap_alloc_new (w.alloc (.cells #[.int .i64 kd, .int .i64 nn, .int .u64 u, .string ⟨s.toArray⟩, .slice A1 q c1, .slice A2 m c2] 38)) (.cells #[.int .i64 0, .int .i64 0, .int .u64 0, .string ⟨#[]⟩, .slice none 0 0, .slice none 0 0] 38)
    rw [World.size_alloc] at this
    exact this
  rintro wn ⟨hbn, hzn, hXn, hYn⟩
  have HBn := Lib.hid hbn
  have HXn := Lib.hid hXn
  have HYn := Lib.hid hYn
  have gX : w.heap.size < wn.heap.size := by omega
  obtain ⟨z0, z1, z2, z3, z4, z5⟩ := cells6 hXn
  have HT2 := Lib.hid (HT.out wn hbn)
  clear hbn hXn hYn HT
  go_wp2_with fail
  refine HT2.out.mono ?_
  clear HT2
  rintro e w1 ⟨⟨v1, rfl, ht1⟩, hb1⟩
  obtain ⟨Av, nv, cv, rfl⟩ := owns_sl ht1
  have hz1 := hb1.size
  have hX1 := (hb1.block _ gX).trans HXn.out
  have y4 : w1.cell? ⟨w.heap.size, 4, none⟩ = some (.slice A1 q c1) := cell_of_row _ _ _ _ _ _ hX1
  have f4 : w1.frozen? ⟨w.heap.size, 4, none⟩ = false := frozen_of_row _ _ _ _ _ hX1
  have gX1 : w.heap.size < w1.heap.size := by omega
  have HX1 := Lib.hid hX1
  have HT1 := Lib.hid ht1
  have HB1 := Lib.hid hb1
  clear hX1 ht1 hb1 z0 z1 z2 z3 z4 z5
  go_upto_region 3 with fail
  refine wp_named (fun wx => Below w.heap.size w wx ∧ wn.heap.size ≤ wx.heap.size ∧ wx.heap[w.heap.size]? = some (.cells #[.int .i64 kd, .int .i64 nn, .int .u64 u, .string ⟨s.toArray⟩, .slice Av nv cv, .slice A2 m c2] 38 (0, 0)) ∧ wx.heap[w.heap.size + 1]? = some (.cells #[.int .i64 0, .int .i64 0, .int .u64 0, .string ⟨#[]⟩, .slice none 0 0, .slice none 0 0] 38 (0, 0)) ∧ TxtRow wn.heap.size wx (.slice Av nv cv) ks) ⟨(HBn.out.trans (HB1.out.mono (by omega))).setCell (p := ⟨w.heap.size, 4, none⟩) (Nat.le_refl _) _, by simp; omega, ?_, ?_, ?_⟩ ?_
  · exact heap_setCell_same w1 _ 4 _ _ _ HX1.out
  · exact (heap_setCell_other _ _ _ _ (by show w.heap.size + 1 ≠ w.heap.size; omega)).trans ((HB1.out.block _ hzn).trans HYn.out)
  · refine own_same2 HT1.out fun i hi => ?_
    have := HT1.out.own.2 i hi
    exact heap_setCell_other _ _ _ _ (by show i ≠ w.heap.size; omega)
  clear y4 f4 gX1 HX1 HT1 HB1 HBn HXn HYn hz1
  rintro wx ⟨hbx, hzx, hX, hY, htx⟩
  obtain ⟨i0, hi, hz0, hz1, hz2⟩ := info_parts nodeInfo
  have HX := Lib.hid hX
  have HY := Lib.hid hY
  have HTX := Lib.hid htx
  have HBX := Lib.hid hbx
  have gX : w.heap.size < wx.heap.size := by omega
  have x5 : wx.cell? ⟨w.heap.size, 5, none⟩ = some (.slice A2 m c2) := cell_of_row _ _ _ _ _ _ hX
  clear hX hY htx hbx
  go_wp2_with fail
  go_loopw [3, 13] (fun v i wr => ∃ k : Nat, k ≤ m ∧ i = .int .i64 k ∧ CutSt (w.heap.size + 1) wx wr ks (l.take k) (.slice Av nv cv) v ∧ Below wx.heap.size wx wr) (fun _ i _ => m - (intOf i).toNat)
  case atStart => exact ⟨0, by omega, rfl, by rw [List.take_zero]; exact HTX.out.kids (by omega), Below.refl _ _⟩
  case round =>
    clear x5
    obtain ⟨k, hk, rfl, ⟨xs2, bl, hkids, hbl⟩, htr⟩ := hrel
    obtain ⟨acc, hacc⟩ : ∃ acc, acc = l.take k := ⟨_, rfl⟩
    rw [← hacc] at hkids
    have hlen : acc.length = k := by rw [hacc, List.length_take, ← HM.out]; omega
    obtain ⟨A3, c3, rfl⟩ := owns_ptr hkids.r
    have hXr := (htr.block _ (by omega)).trans HX.out
    have hYr := (htr.block _ (by omega)).trans HY.out
    have hzr := htr.size
    have x5 : wr.cell? ⟨w.heap.size, 5, none⟩ = some (.slice A2 m c2) := cell_of_row _ _ _ _ _ _ hXr
    have HACC := Lib.hid hacc
    clear hacc
    obtain rfl : acc.length = k := hlen
    by_cases g0 : acc.length < m
    · have d0 : decide ((acc.length : Int) < (m : Int)) = true := decide_eq_true (by omega)
      have hkl : acc.length < l.length := by rw [← HM.out]; exact g0
      have hRd : Rd w (.slice A2 m c2) 6 l.length xs := by
        have := HL.out
        have e := HM.out
        rw [← e] at this ⊢
        exact this
      have hbw : Below w.heap.size w wr := HBX.out.trans (htr.mono (by omega))
      obtain ⟨b, o, kd', nn', uu', ss', A1', m1', c1', A2', m2', c2', rfl, hblt, hblr, hrep, p0, p1, p2, p3, p4, p5⟩ := HK.out.kid hRd hbw acc.length hkl
      have hba := (Below.refl wr.heap.size wr).alloc (Nat.le_refl _) (.cells #[.int .i64 kd', .int .i64 nn', .int .u64 uu', .string ss', .slice A1' m1' c1', .slice A2' m2' c2'] 38)
      have HC := Lib.hid (HI.out l[acc.length] (List.getElem_mem hkl) _ _ _ _ _ _ _ (RRep.below (hbw.trans (hba.mono hbw.size)) _ _ hrep) (HW.out.at_ _ (List.getElem_mem hkl)))
      have HK2 := Lib.hid (hkids.touch (lk := w.heap.size) (Touch.quiet hba) (by omega))
      have HTR := Lib.hid (htr.trans (hba.mono hzr))
      have HGO2 := Lib.hid (show l.take (acc.length + 1) = acc ++ [l[acc.length]] by rw [List.take_succ_eq_append_getElem hkl, ← HACC.out])
      generalize l[acc.length] = T' at *
      have HBL := Lib.hid hbl
      have H63 : Hid (acc.length + 1 ≤ maxLen) := Lib.hid (by unfold maxLen; omega)
      have HBY : Hid ((acc.length + 1) * 88 ≤ 140737488355328) := Lib.hid (by omega)
      have hsz2 : (wr.alloc (.cells #[.int .i64 kd', .int .i64 nn', .int .u64 uu', .string ss', .slice A1' m1' c1', .slice A2' m2' c2'] 38)).heap.size = wr.heap.size + 1 := World.size_alloc _ _
      clear hkids hXr hYr htr hrep hRd hbw hbl hba x5
      go_wp2_with (first | (go_at_call 56; refine HC.out.mono ?_; clear HC; rintro e w1 ⟨⟨v1, rfl, y0, y1, y2, y3, y4, y5, bs, rfl, hn1, hnd1, hge1⟩, hb1⟩; obtain ⟨kd1, nn1, uu1, s1, B1, m1, d1, B2, m2, d2, rfl, rfl, rfl, rfl, rfl, rfl⟩ := hn1.form2; have hn1 := Lib.hid hn1; have hge1 := Lib.hid hge1; have HT1 := Lib.hid hb1; clear hb1) | (at_builtin; refine wpList_append_where (P := Tryz.prog) _ rfl (.tmp 17) (.tmp 20) 36 rfl 38 i0 (.agg #[.int .i64 0, .int .i64 0, .int .u64 0, .string ⟨#[]⟩, .slice none 0 0, .slice none 0 0]) 6 88 Tryz.underlying36 hi hz0 hz1 hz2 rfl (by decide) (.slice A3 acc.length c3) acc.length xs2 rfl (own_below (HK2.out.touch (lk := w.heap.size) (Touch.quiet HT1.out) (by omega)).r ((Below.refl _ _).alloc (Nat.le_refl _) _)) ⟨w1.heap.size, 0, none⟩ 1 1 [.int .i64 kd1, .int .i64 nn1, .int .u64 uu1, .string s1, .slice B1 m1 d1, .slice B2 m2 d2] rfl rfl (row_at (heap_alloc_new _ _)) six_one H63.out HBY.out ?_; intro v' w3 ho hg hwh; obtain ⟨A', n', c', rfl⟩ := owns_sl ho))
      have hfin := Kids.push (lk := w.heap.size) HK2.out (by omega) (Touch.quiet HT1.out) hn1.out hnd1 hge1.out (by rw [hsz2]; omega) ((Below.refl w1.heap.size w1).alloc (Nat.le_refl _) (.cells #[.int .i64 kd1, .int .i64 nn1, .int .u64 uu1, .string s1, .slice B1 m1 d1, .slice B2 m2 d2] 38)) hg ho hwh
      have hz1 := HT1.out.size
      rw [hsz2] at hz1
      have hb4 : ∀ i ∈ blkL (.slice A' n' c') ++ (bl ++ bs), wx.heap.size ≤ i := by
        intro i hi
        rcases List.mem_append.1 hi with h | h
        · rcases hwh with e | e
          · exact HBL.out i (List.mem_append.2 (.inl (by rw [mem_blk] at h ⊢; rw [← e]; exact h)))
          · have := (mem_blk.1 h).symm.trans e
            injection this with this
            simp at this
            omega
        · rcases List.mem_append.1 h with h | h
          · exact HBL.out i (List.mem_append.2 (.inr h))
          · have := hge1.out i h
            rw [hsz2] at this
            omega
      have ht4 : Below wx.heap.size wx w3 := ((HTR.out.trans (HT1.out.mono (by rw [hsz2]; omega))).alloc (by omega) _).grown hg (by simp; omega) (fun k hk => HBL.out k (List.mem_append.2 (.inl (mem_blk.2 hk))))
      clear ho hg hwh
      go_roundw
      case rel => exact ⟨acc.length + 1, by omega, by go_num, ⟨_, _, by rw [HGO2.out]; exact hfin, hb4⟩, ht4⟩
      case measure => simp only [intOf]; omega
    · have hcl : l = acc := by
        rw [HACC.out]
        have := HM.out
        rw [List.take_of_length_le (by omega)]
      have HCL := Lib.hid hcl
      obtain ⟨n0, n1, n2, n3, n4, n5⟩ := cells6 hXr
      obtain ⟨y0, y1, y2, y3, y4, y5⟩ := cells6 hYr
      have fz5 : wr.frozen? ⟨w.heap.size, 5, none⟩ = false := frozen_of_row _ _ _ _ _ hXr
      have fy0 : wr.frozen? ⟨w.heap.size + 1, 0, none⟩ = false := frozen_of_row _ _ _ _ _ hYr
      have fy1 : wr.frozen? ⟨w.heap.size + 1, 1, none⟩ = false := frozen_of_row _ _ _ _ _ hYr
      have fy2 : wr.frozen? ⟨w.heap.size + 1, 2, none⟩ = false := frozen_of_row _ _ _ _ _ hYr
      have fy3 : wr.frozen? ⟨w.heap.size + 1, 3, none⟩ = false := frozen_of_row _ _ _ _ _ hYr
      have fy4 : wr.frozen? ⟨w.heap.size + 1, 4, none⟩ = false := frozen_of_row _ _ _ _ _ hYr
      have fy5 : wr.frozen? ⟨w.heap.size + 1, 5, none⟩ = false := frozen_of_row _ _ _ _ _ hYr
      have gZ : w.heap.size < wr.heap.size := by omega
      have gY : w.heap.size + 1 < wr.heap.size := by omega
      have HKF := Lib.hid hkids
      have HTF := Lib.hid htr
      have HBL := Lib.hid hbl
      clear hkids htr hXr hYr hcl hbl HACC x5
      have d0 : decide ((acc.length : Int) < (m : Int)) = false := decide_eq_false (by omega)
      go_wp2_with fail
      (refine bodyPost_ret (v := .agg #[.int .i64 kd, .int .i64 nn, .int .u64 u, .string ⟨s.toArray⟩, .slice Av nv cv, .slice A3 acc.length c3]) (by simp [results, Tryz.results56, go_sem, *]) rfl ?_)
      refine ⟨⟨_, rfl, ?_⟩, seven_below (HBX.out.trans (HTF.out.mono (by omega))) (by omega) (by omega) _ _ _ _ _ _ _⟩
      rw [HCL.out]
      refine (HKF.out.fresh (fun i hi => seven_other ?_ ?_ _ _ _ _ _ _ _) _ _ _ _).mono (by omega)
      · rcases List.mem_append.1 hi with h | h
        · have := HTX.out.own.2 i h
          omega
        · have := HBL.out i h
          omega
      · rcases List.mem_append.1 hi with h | h
        · have := HTX.out.own.2 i h
          omega
        · have := HBL.out i h
          omega
/-- tree.Copy. -/
theorem tcopy_any (T : DT) : TCopyC T := DT.byKids (fun kd nn u s ks l ih => tcopy_step kd nn u s ks l ih) T
end
end
end Go.Proofs.YtlblddeemkefkaaGreatDoor
