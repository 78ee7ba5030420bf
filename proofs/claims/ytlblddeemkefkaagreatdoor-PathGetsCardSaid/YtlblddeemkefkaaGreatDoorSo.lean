/- few; nodes and pairs of paths that come in. -/
import Derived.Test.YtlblddeemkefkaaGreatDoorSm
import Derived.Test.YtlblddeemkefkaaGreatDoorSc
import Derived.Test.YtlblddeemkefkaaGreatDoorYe
namespace Go.Proofs.YtlblddeemkefkaaGreatDoor
set_option linter.unusedVariables false
set_option linter.unusedSimpArgs false
set_option linter.unusedSectionVars false
open Go.ChangeShapes Go.WideShapes Go.ChangeAt Go.RowKit
section
variable {H : Type} {enc : TypeId × Value → H} {w : World} {held : Bool}
set_option maxRecDepth 100000 in
/-- A node that came in. -/
theorem node_in {r : Reach} {b0 : Nat} {v : Value} {d : DataW H} {p : List MemPlace} (hv : Value.okWide Tryz.prog w r b0 38 v) (h : DataW.Trod enc Tryz.prog w 0 (fun _ => true) held 38 v d p) :
    ∃ n0 n1 n2 n3 n4 n5, v = .agg #[n0, n1, n2, n3, n4, n5] ∧ ∃ T, RRep w T [n0, n1, n2, n3, n4, n5] ∧ WfD T := by
  obtain ⟨cs, rfl, hs⟩ := okWide_struct Tryz.underlying38 hv
  have hco : Tryz.prog.cellsOf 38 = 6 := by kernel_rfl
  rw [hco] at hs
  obtain ⟨l⟩ := cs
  have hl : l.length = 6 := by simpa using hs
  match l, hl with
  | [n0, n1, n2, n3, n4, n5], _ =>
    obtain ⟨fuel, hf⟩ := h
    exact ⟨n0, n1, n2, n3, n4, n5, rfl, open_node fuel [n0, n1, n2, n3, n4, n5] _ hf⟩
end
section
/-- A tree cut by the law. -/
def fewD (T : DT) : DT := (cutD 40 T 79).1
theorem few_size (T : DT) : sizeD (fewD T) ≤ 80 := by
  have h := cutD_size 40 T 79
  unfold fewD
  have : (0 : Int) ≤ (cutD 40 T 79).2 := Int.natCast_nonneg _
  omega
theorem few_small (T : DT) : SmallD (fewD T) := short_small 40 _ (cutD_short 40 T 79) (by have := few_size T; omega)
theorem few_wf {T : DT} (h : WfD T) : WfD (fewD T) := cutD_wf 40 T 79 h
set_option maxRecDepth 100000 in
set_option maxHeartbeats 4000000 in
theorem few8_any (T : DT) (w : World) (x0 x1 x2 x3 x4 x5 : Value) (hx : RRep w T [x0, x1, x2, x3, x4, x5]) (hwf : WfD T) :
    Calls Tryz.prog 21 #[.agg #[x0, x1, x2, x3, x4, x5]] w fun e w' => (∃ v, e = .returned v ∧ Fresh w.heap.size w' (fewD T) v) ∧ Below w.heap.size w w' := by
  have HC := Lib.hid (fun (V : World) (hV : Below w.heap.size w V) => cut_any T 80 40 (by omega) (by omega) (by omega) V x0 x1 x2 x3 x4 x5 (RRep.below hV _ _ hx) hwf)
  obtain ⟨kd, nn, u, s, A1, m1, c1, A2, m2, c2, hcs⟩ := hx.cs6
  simp only [List.cons.injEq, and_true] at hcs
  obtain ⟨rfl, rfl, rfl, rfl, rfl, rfl⟩ := hcs
  clear hx hwf
  go_enter Tryz.func21, Tryz.ntmps21
  go_upto_region 1 with fail
  refine wp_named (fun wn => Below w.heap.size w wn ∧ w.heap.size + 1 < wn.heap.size ∧ wn.heap[w.heap.size]? = some (.cells #[.int .i64 kd, .int .i64 nn, .int .u64 u, .string s, .slice A1 m1 c1, .slice A2 m2 c2] 38 (0, 0)) ∧ wn.heap[w.heap.size + 1]? = some (.cells #[.int .i64 0, .int .i64 0, .int .u64 0, .string ⟨#[]⟩, .slice none 0 0, .slice none 0 0] 38 (0, 0))) ⟨by exact zw, by simp, ?_, ?_⟩ ?_
  · exact (Below.heap_alloc _ _ _ (by simp)).trans (heap_alloc_new _ _)
  · have := heap_alloc_new (w.alloc (.cells #[.int .i64 kd, .int .i64 nn, .int .u64 u, .string s, .slice A1 m1 c1, .slice A2 m2 c2] 38)) (.cells #[.int .i64 0, .int .i64 0, .int .u64 0, .string ⟨#[]⟩, .slice none 0 0, .slice none 0 0] 38)
    rw [World.size_alloc] at this
    exact this
  rintro wn ⟨hbn, hzn, hXn, hYn⟩
  have HB := Lib.hid hbn
  obtain ⟨z0, z1, z2, z3, z4, z5⟩ := cells6 hXn
  have HY := Lib.hid hYn
  clear hbn hXn hYn
  go_wp2_with fail
  refine (HC.out wn HB.out).mono ?_
  rintro e w1 ⟨⟨v1, rfl, hf⟩, hb1⟩
  have HF := Lib.hid hf
  obtain ⟨y0, y1, y2, y3, y4, y5, bs, rfl, hn1, -, -⟩ := hf
  obtain ⟨kd1, nn1, uu1, s1, B1, k1, d1, B2, k2, d2, rfl, rfl, rfl, rfl, rfl, rfl⟩ := hn1.form2
  have hY1 := below_row HY.out hb1
  obtain ⟨q0, q1, q2, q3, q4, q5⟩ := cells6 hY1
  have fy0 : w1.frozen? ⟨w.heap.size + 1, 0, none⟩ = false := frozen_of_row _ _ _ _ _ hY1
  have fy1 : w1.frozen? ⟨w.heap.size + 1, 1, none⟩ = false := frozen_of_row _ _ _ _ _ hY1
  have fy2 : w1.frozen? ⟨w.heap.size + 1, 2, none⟩ = false := frozen_of_row _ _ _ _ _ hY1
  have fy3 : w1.frozen? ⟨w.heap.size + 1, 3, none⟩ = false := frozen_of_row _ _ _ _ _ hY1
  have fy4 : w1.frozen? ⟨w.heap.size + 1, 4, none⟩ = false := frozen_of_row _ _ _ _ _ hY1
  have fy5 : w1.frozen? ⟨w.heap.size + 1, 5, none⟩ = false := frozen_of_row _ _ _ _ _ hY1
  have hz1 := hb1.size
  have HB1 := Lib.hid (HB.out.trans (hb1.mono HB.out.size))
  clear hY1 hn1 hb1 HY z0 z1 z2 z3 z4 z5
  go_wp2_with fail
  (refine bodyPost_ret (v := .agg #[.int .i64 kd1, .int .i64 nn1, .int .u64 uu1, .string s1, .slice B1 k1 d1, .slice B2 k2 d2]) (by simp [results, Tryz.results21, go_sem, *]) rfl ?_)
  exact ⟨⟨_, rfl, HF.out.six (by omega) (by omega) _ _ _ _ _ _⟩, below_six HB1.out (by omega) _ _ _ _ _ _⟩
end
end Go.Proofs.YtlblddeemkefkaaGreatDoor
