/- The walks of tree.Size and tree.Deep: ranges over the iterator of nodes. -/
import Derived.Test.YtccmhhmdenfecaaGreatDoorQa
import Derived.RangeFuncFrom
import Derived.Maps.AppendAt
namespace Go.Proofs.YtccmhhmdenfecaaGreatDoor
set_option linter.unusedVariables false
set_option linter.unusedSimpArgs false
open Go.RowKit Go.Shelf
attribute [local go_sem] Oper.semAt_some
theorem cell_new1 (W : World) (v : Value) (t : TypeId) : (W.alloc (.cells #[v] t)).cell? ⟨W.heap.size, 0, none⟩ = some v ∧ (W.alloc (.cells #[v] t)).frozen? ⟨W.heap.size, 0, none⟩ = false := by
  exact ⟨cell_of_row _ _ _ _ _ _ (heap_alloc_new W (.cells #[v] t)), frozen_of_row _ _ _ _ _ (heap_alloc_new W (.cells #[v] t))⟩
theorem cell_alloc1 {W : World} {a : Addr} {v : Value} (o : Obj) (h : W.cell? a = some v) : (W.alloc o).cell? a = some v := cell_kept h (World.grownBy_alloc W o none) (fun r e => by cases e)
theorem frozen_alloc1 {W : World} {a : Addr} {v : Value} (o : Obj) (h : W.cell? a = some v) (hf : W.frozen? a = false) : (W.alloc o).frozen? a = false := (frozen_kept h (World.grownBy_alloc W o none) (fun r e => by cases e)).trans hf
theorem KC_set (nb : Nat) (W : World) (v : Value) : KS nb W (W.setCell ⟨nb, 0, none⟩ v) :=
  ⟨fun k cur ty fr hk h => (heap_setCell_other W ⟨nb, 0, none⟩ k v (fun e => hk e)).trans h, by simp⟩
set_option maxRecDepth 100000 in
set_option maxHeartbeats 4000000 in
theorem deep_in (F : Fence) (hd : F.depth = none) (n : Nat) (h26 : F.fn 35) (h41 : F.fn 42) (h75 : F.fn 65) (h76 : F.fn 66) (hro : F.round = none) (hn : 3 ≤ n) (T : DT) (x0 x1 x2 x3 x4 x5 : Value) (bs : List Nat) (w : World) (hN : NRep w T [x0, x1, x2, x3, x4, x5] bs) (hs : sizeD T ≤ 1073741824) (hdp : depthD T ≤ 1073741824) :
    CallsIn F n Tryz.prog 35 #[.agg #[x0, x1, x2, x3, x4, x5]] w fun e W' => e = .returned (.int .i64 (depthD T)) ∧ Below w.heap.size w W' := by
  have h1 : 1 ≤ n := by omega
  have hbd := hN.bd _ _ _
  refine callsIn_of_wp_marks Tryz.func35 rfl h26 ?_ hro
  simp only [Tryz.ntmps35, List.size_toArray, List.length_cons, List.length_nil, Nat.reduceAdd, Nat.reduceSub, Array.replicate_succ, Array.replicate_zero, List.push_toArray, List.append_toArray, List.nil_append, List.cons_append]
  gi_wp2_with (gi_at_call 42; refine (walked_in F (n - 1) h41 hro x0 x1 x2 x3 x4 x5 _).mono ?_; rintro e w' ⟨rfl, rfl⟩)
  have hn1 := cell_new1 (w.alloc (.cells #[x0, x1, x2, x3, x4, x5] 27)) (.int .i64 0) 3
  rw [World.size_alloc] at hn1
  have hB0 : Below w.heap.size w (((w.alloc (.cells #[x0, x1, x2, x3, x4, x5] 27)).alloc (.cells #[.int .i64 0] 3)).alloc (.cells #[x0, x1, x2, x3, x4, x5] 27)) := by exact zw
  have hBx : (((w.alloc (.cells #[x0, x1, x2, x3, x4, x5] 27)).alloc (.cells #[.int .i64 0] 3)).alloc (.cells #[x0, x1, x2, x3, x4, x5] 27)).heap[w.heap.size + 1 + 1]? = some (.cells #[x0, x1, x2, x3, x4, x5] 27 (0, 0)) := by
    simpa using heap_alloc_new ((w.alloc (.cells #[x0, x1, x2, x3, x4, x5] 27)).alloc (.cells #[.int .i64 0] 3)) (.cells #[x0, x1, x2, x3, x4, x5] 27)
  have hpos := sizeD_pos T
  refine wpIn_rangeFunc_ownF hro h1 (gf := 65) (lb := #[.pointer (some ⟨w.heap.size + 1 + 1, 0, none⟩)]) rfl h75 (enters_of Tryz.func65 (by kernel_rfl) rfl)
    (visits_stops F hd (n - 1) h75 h76 hro (w.heap.size + 1 + 1) (w.heap.size + 1) (sizeD T).toNat T x0 x1 x2 x3 x4 x5 bs _ hBx (hN.below hB0) (fun h => by have := hbd _ h; omega) (by simp) (by omega) hdp) KS_t (fun W l o o' _ h ho _ => KS_b W l o o' h ho) (Below.refl _ _) (fun _ => rfl)
    (fun pre W => (W.cell? ⟨w.heap.size + 1, 0, none⟩ = some (.int .i64 (pre.foldl (fun d x => max d (x.1.1 + 1)) 0)) ∧ W.frozen? ⟨w.heap.size + 1, 0, none⟩ = false) ∧ Below w.heap.size w W)
    (fun _ _ _ => False)
    (OwnFrom.and (Own.from (fun s A B row hs hg hr => ⟨cell_kept hs.1 hg hr, (frozen_kept hs.1 hg hr).trans hs.2⟩) _) (ownFrom_below (Nat.le_refl _) (by simp; omega)))
    (fun _ _ _ _ _ hs _ _ => hs)
    ⟨⟨cell_alloc1 _ hn1.1, frozen_alloc1 _ hn1.1 hn1.2⟩, hB0⟩
    (fun x => { tmps := #[.agg #[x0, x1, x2, x3, x4, x5], .pointer (some ⟨w.heap.size, 0, none⟩), .pointer (some ⟨w.heap.size + 1, 0, none⟩), .int .i64 x.1.1, .agg #[x0, x1, x2, x3, x4, x5], .func (.func 65) #[] #[.pointer (some ⟨w.heap.size + 1 + 1, 0, none⟩)], .int .i64 x.1.1, .agg x.1.2, undef, undef, undef, undef, undef], defers := [] }) ?assign ?body ?done ?stop
  case assign =>
    intro l x W K hK
    unfold visV
    gi_wp2
    first | exact hK | simpa using hK
  case body =>
    rintro l pre x W ⟨⟨hc, hf⟩, hB⟩ hlen
    obtain ⟨b0, b1⟩ := x.2
    have q1 : IntKind.i64.wrap (x.1.1 + 1) = x.1.1 + 1 := IntWalk.i64_in _ (by omega)
    have q2 : wrap64 (x.1.1 + 1) = x.1.1 + 1 := by rw [← IntWalk.i64_left]; exact q1
    gi_wp2
    exact ⟨KeepsOthers.setCell _ _ _, KC_set _ _ _, ⟨by rw [List.foldl_append]; exact World.cell?_setCell_same' _ _ _ (by rw [hc]; rfl), by rw [World.frozen?_setCell]; exact hf⟩, hB.setCell (p := ⟨w.heap.size + 1, 0, none⟩) (by simp) _⟩
  case done =>
    rintro D ys W hD hys ⟨⟨hc, hf⟩, hB⟩ hK
    have hl : ys.foldl (fun d x => max d (x.1.1 + 1)) 0 = depthD T := by
      have h := levels_max 0 T 0
      rw [← hys, List.foldl_map] at h
      rw [h]
      have := depthD_pos T
      omega
    rw [hl] at hc
    gi_wp2
    have hK' := (KeepsOthers.setCell W ⟨w.heap.size + 1, 0, none⟩ (.int .i64 (depthD T))).same D _ hK rfl
    refine ⟨by simp, .inl ⟨_, _, rfl, run_takeDeferred hK', ?_⟩⟩
    have hc5 := cell_kept (World.cell?_setCell_same' W ⟨w.heap.size + 1, 0, none⟩ (.int .i64 (depthD T)) (by rw [hc]; rfl)) (grownBy_putObj' _ D (.deferred none)) (fun r e => by cases e; exact ⟨_, hK', rfl⟩)
    refine ⟨.int .i64 (depthD T), ?_, rfl, (hB.setCell (p := ⟨w.heap.size + 1, 0, none⟩) (by simp) _).trans (belowK_b (w := w) (Nat.le_refl _) _ D _ _ (by simp at hD; omega) hK' rfl rfl)⟩
    simp [results, Tryz.f35, Tryz.results35, go_sem, hc5]
  case stop =>
    rintro D c pre W _ _ h _
    exact h.elim
theorem deep_any (T : DT) (x0 x1 x2 x3 x4 x5 : Value) (bs : List Nat) (w : World) (hN : NRep w T [x0, x1, x2, x3, x4, x5] bs) (hs : sizeD T ≤ 1073741824) (hdp : depthD T ≤ 1073741824) :
    Calls Tryz.prog 35 #[.agg #[x0, x1, x2, x3, x4, x5]] w fun e W' => e = .returned (.int .i64 (depthD T)) ∧ Below w.heap.size w W' :=
  callsIn_wide.1 (deep_in Fence.wide rfl 3 trivial trivial trivial trivial rfl (Nat.le_refl _) T x0 x1 x2 x3 x4 x5 bs w hN hs hdp)
end Go.Proofs.YtccmhhmdenfecaaGreatDoor
