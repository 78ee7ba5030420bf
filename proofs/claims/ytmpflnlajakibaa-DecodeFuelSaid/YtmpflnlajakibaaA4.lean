/- The walk of list.shapes. The walks of list.length, fixed, place, typed, tagged. The walk of list.find. -/
import Derived.Test.YtmpflnlajakibaaA2
import Derived.Deep.RegionHeld3
namespace Go.Proofs.Ytmpflnlajakibaa
set_option linter.unusedVariables false
set_option linter.unusedSimpArgs false
section
open Go.RowKit
def fnV (f : Nat) : Value := .func (.func f) #[] #[]
/-- One entry of list.shapes before the two last assignments. -/
def loopShape (t : Int) : List Value :=
  if vecB t then (if 0 < manyOf t then [.int .i64 0, fnV 71, fnV 72, .int .i64 0] else [.int .i64 1, fnV 73, fnV 72, .int .i64 0])
  else [.int .i64 0, .nilFunc, .nilFunc, .int .i64 0]
def shapeRow (k : Nat) : Array Value := ((List.range 37).flatMap fun t => if t < k then loopShape t else [.int .i64 0, .nilFunc, .nilFunc, .int .i64 0]).toArray
def shapesCells : Array Value := ((List.range 37).flatMap fun t => if (t : Nat) = 9 then [.int .i64 3, fnV 73, fnV 74, .int .i64 1] else if t = 10 then [.int .i64 1, fnV 73, fnV 74, .int .i64 1] else loopShape t).toArray
theorem shapeRow_size (k : Nat) : (shapeRow k).size = 148 := by
  have h : ∀ l : List Nat, ((l.flatMap fun t => if t < k then loopShape t else [Value.int .i64 0, .nilFunc, .nilFunc, .int .i64 0])).length = 4 * l.length := by
    intro l
    induction l with
    | nil => rfl
    | cons x l ih =>
      rw [List.flatMap_cons, List.length_append, ih, List.length_cons]
      have : (if x < k then loopShape x else [Value.int .i64 0, .nilFunc, .nilFunc, .int .i64 0]).length = 4 := by
        split
        · unfold loopShape; split
          · split <;> rfl
          · rfl
        · rfl
      omega
  unfold shapeRow
  rw [List.size_toArray, h]; rfl
theorem row_cells {w1 : World} {g k : Nat} {T : TypeId} (h : w1.heap[g]? = some (.cells (shapeRow k) T (0, 0))) (hk : k < 37) :
    (∃ x, w1.cell? ⟨g, k * 4, none⟩ = some x) ∧ (∃ x, w1.cell? ⟨g, k * 4 + 1, none⟩ = some x) ∧ (∃ x, w1.cell? ⟨g, k * 4 + 2, none⟩ = some x) ∧ (∃ x, w1.cell? ⟨g, k * 4 + 3, none⟩ = some x) := by
  have hs := shapeRow_size k
  refine ⟨⟨(shapeRow k)[k * 4]'(by omega), ?_⟩, ⟨(shapeRow k)[k * 4 + 1]'(by omega), ?_⟩, ⟨(shapeRow k)[k * 4 + 2]'(by omega), ?_⟩, ⟨(shapeRow k)[k * 4 + 3]'(by omega), ?_⟩⟩
  all_goals rw [cell_of_row _ _ _ _ _ _ h, Array.getElem?_eq_getElem]
theorem shapeRow_skip (k : Nat) (h : vecB k = false) : shapeRow (k + 1) = shapeRow k := by
  unfold shapeRow
  congr 2
  funext t
  by_cases h1 : t < k
  · rw [if_pos (by omega), if_pos h1]
  · by_cases h2 : t = k
    · subst h2
      rw [if_pos (by omega), if_neg h1]
      simp [loopShape, h]
    · rw [if_neg (by omega), if_neg h1]
set_option maxRecDepth 100000 in
theorem shapeRow_step (k : Nat) (hk : k < 37) :
    ((((shapeRow k).setIfInBounds (k * 4) ((loopShape k).getD 0 undef)).setIfInBounds (k * 4 + 1) ((loopShape k).getD 1 undef)).setIfInBounds (k * 4 + 2) ((loopShape k).getD 2 undef)).setIfInBounds (k * 4 + 3) ((loopShape k).getD 3 undef) = shapeRow (k + 1) := by
  have : k = 0 ∨ k = 1 ∨ k = 2 ∨ k = 3 ∨ k = 4 ∨ k = 5 ∨ k = 6 ∨ k = 7 ∨ k = 8 ∨ k = 9 ∨ k = 10 ∨ k = 11 ∨ k = 12 ∨ k = 13 ∨ k = 14 ∨ k = 15 ∨ k = 16 ∨ k = 17 ∨ k = 18 ∨ k = 19 ∨ k = 20 ∨ k = 21 ∨ k = 22 ∨ k = 23 ∨ k = 24 ∨ k = 25 ∨ k = 26 ∨ k = 27 ∨ k = 28 ∨ k = 29 ∨ k = 30 ∨ k = 31 ∨ k = 32 ∨ k = 33 ∨ k = 34 ∨ k = 35 ∨ k = 36 := by omega
  rcases this with rfl | rfl | rfl | rfl | rfl | rfl | rfl | rfl | rfl | rfl | rfl | rfl | rfl | rfl | rfl | rfl | rfl | rfl | rfl | rfl | rfl | rfl | rfl | rfl | rfl | rfl | rfl | rfl | rfl | rfl | rfl | rfl | rfl | rfl | rfl | rfl | rfl
  all_goals (show _ = _; kernel_rfl)
set_option maxRecDepth 100000 in
theorem shapeRow_zero : Try.zeroCells89 = shapeRow 0 := by kernel_rfl
set_option maxRecDepth 100000 in
theorem row_final_eq : (((((((((shapeRow 37).setIfInBounds 40 (.int .i64 1)).setIfInBounds 41 (fnV 73)).setIfInBounds 42 (fnV 74)).setIfInBounds 43 (.int .i64 1)).setIfInBounds 36 (.int .i64 3)).setIfInBounds 37 (fnV 73)).setIfInBounds 38 (fnV 74)).setIfInBounds 39 (.int .i64 1)) = shapesCells := by kernel_rfl
theorem row_final {w wr : World} (h : wr.heap[w.heap.size + 1]? = some (.cells (shapeRow 37) 89 (0, 0))) :
    ((((((((wr.setCell ⟨w.heap.size + 1, 40, none⟩ (.int .i64 1)).setCell ⟨w.heap.size + 1, 41, none⟩ (fnV 73)).setCell ⟨w.heap.size + 1, 42, none⟩ (fnV 74)).setCell ⟨w.heap.size + 1, 43, none⟩ (.int .i64 1)).setCell ⟨w.heap.size + 1, 36, none⟩ (.int .i64 3)).setCell ⟨w.heap.size + 1, 37, none⟩ (fnV 73)).setCell ⟨w.heap.size + 1, 38, none⟩ (fnV 74)).setCell ⟨w.heap.size + 1, 39, none⟩ (.int .i64 1)).heap[w.heap.size + 1]? = some (.cells shapesCells 89 (0, 0)) := by
  rw [← row_final_eq]
  exact (heap_setCell_same _ _ _ _ _ _ (heap_setCell_same _ _ _ _ _ _ (heap_setCell_same _ _ _ _ _ _ (heap_setCell_same _ _ _ _ _ _ (heap_setCell_same _ _ _ _ _ _ (heap_setCell_same _ _ _ _ _ _ (heap_setCell_same _ _ _ _ _ _ (heap_setCell_same _ _ _ _ _ _ h))))))))
theorem row_still {w wr : World} (h : wr.heap[w.heap.size]? = some (.cells Try.zeroCells89 89 (0, 0))) :
    ((((((((wr.setCell ⟨w.heap.size + 1, 40, none⟩ (.int .i64 1)).setCell ⟨w.heap.size + 1, 41, none⟩ (fnV 73)).setCell ⟨w.heap.size + 1, 42, none⟩ (fnV 74)).setCell ⟨w.heap.size + 1, 43, none⟩ (.int .i64 1)).setCell ⟨w.heap.size + 1, 36, none⟩ (.int .i64 3)).setCell ⟨w.heap.size + 1, 37, none⟩ (fnV 73)).setCell ⟨w.heap.size + 1, 38, none⟩ (fnV 74)).setCell ⟨w.heap.size + 1, 39, none⟩ (.int .i64 1)).heap[w.heap.size]? = some (.cells Try.zeroCells89 89 (0, 0)) := by
  rw [heap_setCell_other _ _ _ _ (by simp)]; rw [heap_setCell_other _ _ _ _ (by simp)]; rw [heap_setCell_other _ _ _ _ (by simp)]; rw [heap_setCell_other _ _ _ _ (by simp)]; rw [heap_setCell_other _ _ _ _ (by simp)]; rw [heap_setCell_other _ _ _ _ (by simp)]; rw [heap_setCell_other _ _ _ _ (by simp)]; rw [heap_setCell_other _ _ _ _ (by simp)]; exact h
set_option maxRecDepth 100000 in
set_option maxHeartbeats 4000000 in
theorem shapes_any (w : World) : Calls Try.prog 39 #[] w fun e w' => e = .returned (.agg shapesCells) ∧ Below w.heap.size w w' := by
  go_enter Try.func39, Try.ntmps39
  go_wp2
  go_loopw [6] (fun i wr => ∃ k : Nat, k ≤ 37 ∧ i = .int .i64 k ∧ Below w.heap.size w wr ∧ w.heap.size + 2 ≤ wr.heap.size ∧ wr.heap[w.heap.size]? = some (.cells Try.zeroCells89 89 (0, 0)) ∧ wr.heap[w.heap.size + 1]? = some (.cells (shapeRow k) 89 (0, 0))) (fun i _ => 37 - (intOf i).toNat)
  case atStart => exact ⟨0, by omega, rfl, by exact zw, by simp, heap_alloc2_old _ _ _, by rw [← shapeRow_zero]; exact heap_alloc2_new _ _ _⟩
  case round =>
    rename_i wr
    obtain ⟨k, hk, rfl, hb, hsz, hr0, hr1⟩ := hrel
    have Hr0 := Lib.hid hr0; clear hr0
    have Hr1 := Lib.hid hr1; clear hr1
    by_cases hlt : k < 37
    · have hlt' : (k : Int) < 37 := by omega
      by_cases hv : vecB k = true
      · by_cases hm : 0 < manyOf k
        · have hm' : Hid ((0 < manyOf k) = True) := Lib.hid (eq_true hm)
          go_wp2_with (go_at_call 70; refine (elem_any _ _).mono ?_; rintro e w1 ⟨rfl, hb1⟩; have hz1 := hb1.size; have Hw1 := Lib.hid ((hb1.block _ (by omega)).trans Hr1.out); obtain ⟨⟨x0, c0⟩, ⟨x1, c1⟩, ⟨x2, c2⟩, ⟨x3, c3⟩⟩ := row_cells Hw1.out hlt; have f0 := frozen_of_row _ _ (k * 4) _ _ Hw1.out; have f1 := frozen_of_row _ _ (k * 4 + 1) _ _ Hw1.out; have f2 := frozen_of_row _ _ (k * 4 + 2) _ _ Hw1.out; have f3 := frozen_of_row _ _ (k * 4 + 3) _ _ Hw1.out)
          go_roundw
          case rel =>
            refine ⟨k + 1, by omega, by go_num, by exact zw, by simp; omega, ?_, ?_⟩
            · rw [heap_setCell_other _ _ _ _ (by simp), heap_setCell_other _ _ _ _ (by simp), heap_setCell_other _ _ _ _ (by simp), heap_setCell_other _ _ _ _ (by simp), hb1.block _ (by omega)]
              exact Hr0.out
            · rw [heap_setCell_same _ _ _ _ _ _ (heap_setCell_same _ _ _ _ _ _ (heap_setCell_same _ _ _ _ _ _ (heap_setCell_same _ _ _ _ _ _ Hw1.out)))]
              rw [← shapeRow_step k hlt]
              simp only [loopShape, hv, hm'.out, if_true, if_false]
              rfl
          case measure => simp only [intOf]; omega
        · have hm' : Hid ((0 < manyOf k) = False) := Lib.hid (eq_false hm)
          go_wp2_with (go_at_call 70; refine (elem_any _ _).mono ?_; rintro e w1 ⟨rfl, hb1⟩; have hz1 := hb1.size; have Hw1 := Lib.hid ((hb1.block _ (by omega)).trans Hr1.out); obtain ⟨⟨x0, c0⟩, ⟨x1, c1⟩, ⟨x2, c2⟩, ⟨x3, c3⟩⟩ := row_cells Hw1.out hlt; have f0 := frozen_of_row _ _ (k * 4) _ _ Hw1.out; have f1 := frozen_of_row _ _ (k * 4 + 1) _ _ Hw1.out; have f2 := frozen_of_row _ _ (k * 4 + 2) _ _ Hw1.out; have f3 := frozen_of_row _ _ (k * 4 + 3) _ _ Hw1.out)
          go_roundw
          case rel =>
            refine ⟨k + 1, by omega, by go_num, by exact zw, by simp; omega, ?_, ?_⟩
            · rw [heap_setCell_other _ _ _ _ (by simp), heap_setCell_other _ _ _ _ (by simp), heap_setCell_other _ _ _ _ (by simp), heap_setCell_other _ _ _ _ (by simp), hb1.block _ (by omega)]
              exact Hr0.out
            · rw [heap_setCell_same _ _ _ _ _ _ (heap_setCell_same _ _ _ _ _ _ (heap_setCell_same _ _ _ _ _ _ (heap_setCell_same _ _ _ _ _ _ Hw1.out)))]
              rw [← shapeRow_step k hlt]
              simp only [loopShape, hv, hm'.out, if_true, if_false]
              rfl
          case measure => simp only [intOf]; omega
      · have hv' : vecB k = false := by simpa using hv
        have hs := Lib.hid (shapeRow_skip k hv')
        clear hv
        go_wp2_with (go_at_call 70; refine (elem_any _ _).mono ?_; rintro e w1 ⟨rfl, hb1⟩; have hz1 := hb1.size; have Hw1 := Lib.hid ((hb1.block _ (by omega)).trans Hr1.out); obtain ⟨⟨x0, c0⟩, ⟨x1, c1⟩, ⟨x2, c2⟩, ⟨x3, c3⟩⟩ := row_cells Hw1.out hlt; have f0 := frozen_of_row _ _ (k * 4) _ _ Hw1.out; have f1 := frozen_of_row _ _ (k * 4 + 1) _ _ Hw1.out; have f2 := frozen_of_row _ _ (k * 4 + 2) _ _ Hw1.out; have f3 := frozen_of_row _ _ (k * 4 + 3) _ _ Hw1.out)
        go_roundw
        case rel =>
          exact ⟨k + 1, by omega, by go_num, by exact zw, by omega, (hb1.block _ (by omega)).trans Hr0.out, by rw [hs.out]; exact Hw1.out⟩
        case measure => simp only [intOf]; omega
    · have hlt' : ¬ (k : Int) < 37 := by omega
      obtain rfl : k = 37 := by omega
      have c := fun (j : Nat) (hj : j < 148) => (show wr.cell? ⟨w.heap.size + 1, j, none⟩ = some ((shapeRow 37).getD j undef) from by
        rw [cell_of_row _ _ _ _ _ _ Hr1.out, Array.getElem?_eq_getElem (by rw [shapeRow_size]; exact hj)]; simp [Array.getD, shapeRow_size, hj])
      have f := fun (j : Nat) => frozen_of_row wr (w.heap.size + 1) j _ _ Hr1.out
      have c36 := c 36 (by decide)
      have f36 := f 36
      have c37 := c 37 (by decide)
      have f37 := f 37
      have c38 := c 38 (by decide)
      have f38 := f 38
      have c39 := c 39 (by decide)
      have f39 := f 39
      have c40 := c 40 (by decide)
      have f40 := f 40
      have c41 := c 41 (by decide)
      have f41 := f 41
      have c42 := c 42 (by decide)
      have f42 := f 42
      have c43 := c 43 (by decide)
      have f43 := f 43
      clear c f hlt
      go_wp2_with (first
        | ((with_reducible refine wpList_load_row (o := ⟨some 32, .load 89 (.tmp 1), _, _, _, _⟩) ?_ 89 (.tmp 1) ?_ (w.heap.size + 1) ?_ 89 shapesCells (0, 0) _ ?_ Try.underlying89 ?_ ?_ ?_); rfl; rfl; rfl; (exact row_final Hr1.out); rfl; (as_aux_lemma => kernel_rfl))
        | ((with_reducible refine wpList_store_row (o := ⟨none, .store 89 (.tmp 0) (.tmp 32), _, _, _, _⟩) ?_ 89 (.tmp 0) (.tmp 32) ?_ w.heap.size shapesCells ?_ ?_ 89 Try.zeroCells89 ?_ ?_ ?_ ?_ ?_); rfl; rfl; rfl; rfl; (exact row_still Hr0.out); (as_aux_lemma => kernel_rfl); (as_aux_lemma => kernel_rfl); (as_aux_lemma => kernel_rfl)))
      refine bodyPost_ret (results_cell_row rfl _ _ w.heap.size 89 shapesCells (0, 0) _ rfl (setRow_heap _ _ _ _ _ _ (row_still Hr0.out)) Try.underlying89 rfl (by as_aux_lemma => kernel_rfl)) rfl ⟨rfl, Below.setRow zw (Nat.le_refl _) _⟩
theorem many_nil (w : World) : (binOp .eql 85 .nilFunc .nilFunc).run Try.prog w = .ok (.bool true) w := by kernel_rfl
theorem many_some (f : Nat) (w : World) : (binOp .eql 85 (.func (.func f) #[] #[]) .nilFunc).run Try.prog w = .ok (.bool false) w := by kernel_rfl
attribute [go_sem] many_nil many_some
/-- The layout of a type. -/
def tagB (t : Int) : Bool := t == 9 || t == 10
def vectorB (t : Int) : Bool := vecB t || tagB t
def aheadOf (t : Int) : Int := if t == 9 then 3 else if t == 10 then 1 else if vecB t then (if 0 < manyOf t then 0 else 1) else 0
def manyFn (t : Int) : Value := if tagB t then fnV 73 else if vecB t then (if 0 < manyOf t then fnV 71 else fnV 73) else .nilFunc
def elemFn (t : Int) : Value := if tagB t then fnV 74 else if vecB t then fnV 72 else .nilFunc
def tagsOf (t : Int) : Int := if tagB t then 1 else 0
theorem shapes_index (t : Int) (h0 : 0 ≤ t) (h : t < 37) (w : World) :
    (Instr.index 89 (.agg shapesCells) (.int .i64 t)).run Try.prog w = .ok (.agg #[.int .i64 (aheadOf t), manyFn t, elemFn t, .int .i64 (tagsOf t)]) w := by
  have : t = 0 ∨ t = 1 ∨ t = 2 ∨ t = 3 ∨ t = 4 ∨ t = 5 ∨ t = 6 ∨ t = 7 ∨ t = 8 ∨ t = 9 ∨ t = 10 ∨ t = 11 ∨ t = 12 ∨ t = 13 ∨ t = 14 ∨ t = 15 ∨ t = 16 ∨ t = 17 ∨ t = 18 ∨ t = 19 ∨ t = 20 ∨ t = 21 ∨ t = 22 ∨ t = 23 ∨ t = 24 ∨ t = 25 ∨ t = 26 ∨ t = 27 ∨ t = 28 ∨ t = 29 ∨ t = 30 ∨ t = 31 ∨ t = 32 ∨ t = 33 ∨ t = 34 ∨ t = 35 ∨ t = 36 := by omega
  rcases this with rfl | rfl | rfl | rfl | rfl | rfl | rfl | rfl | rfl | rfl | rfl | rfl | rfl | rfl | rfl | rfl | rfl | rfl | rfl | rfl | rfl | rfl | rfl | rfl | rfl | rfl | rfl | rfl | rfl | rfl | rfl | rfl | rfl | rfl | rfl | rfl | rfl
  all_goals (show _ = _; kernel_rfl)
end
section
open Go.RowKit
theorem manyOf_bd (t : Int) : 0 ≤ manyOf t ∧ manyOf t ≤ 4 := by
  by_cases h : t < 0 ∨ 37 ≤ t
  · rw [manyOf_out h]; omega
  · have : t = 0 ∨ t = 1 ∨ t = 2 ∨ t = 3 ∨ t = 4 ∨ t = 5 ∨ t = 6 ∨ t = 7 ∨ t = 8 ∨ t = 9 ∨ t = 10 ∨ t = 11 ∨ t = 12 ∨ t = 13 ∨ t = 14 ∨ t = 15 ∨ t = 16 ∨ t = 17 ∨ t = 18 ∨ t = 19 ∨ t = 20 ∨ t = 21 ∨ t = 22 ∨ t = 23 ∨ t = 24 ∨ t = 25 ∨ t = 26 ∨ t = 27 ∨ t = 28 ∨ t = 29 ∨ t = 30 ∨ t = 31 ∨ t = 32 ∨ t = 33 ∨ t = 34 ∨ t = 35 ∨ t = 36 := by omega
    rcases this with rfl | rfl | rfl | rfl | rfl | rfl | rfl | rfl | rfl | rfl | rfl | rfl | rfl | rfl | rfl | rfl | rfl | rfl | rfl | rfl | rfl | rfl | rfl | rfl | rfl | rfl | rfl | rfl | rfl | rfl | rfl | rfl | rfl | rfl | rfl | rfl | rfl
    all_goals (refine ⟨by decide, by decide⟩)
theorem llength_any (b o n cap : Nat) (L : List UInt8) (p q t k : Int) (a : Int) (w : World) (D : Doc w b o n cap L) (h1 : 0 ≤ a) (h2 : a ≤ 1073741824) (h3 : 1 ≤ k) (h4 : k ≤ 8) :
    Calls Try.prog 73 #[.slice (some ⟨b, o, none⟩) n cap, .agg #[.int .i64 p, .int .i64 q, .int .i64 t, .int .i64 k], .int .i64 a] w fun e w' => e = .returned (.int .u64 (loadV L (a - k) k)) ∧ Below w.heap.size w w' := by
  go_enter Try.func73, Try.ntmps73
  go_wp2_with (go_at_call 79; refine (load_any _ _ _ _ L _ _ _ (D.below zw)).mono ?_; rintro e w1 ⟨rfl, hb1⟩; obtain ⟨hc1, hf1, hl1⟩ := bcell hb1; (try simp only [zdz] at hc1 hf1 hl1); have hz1 := hb1.size; (try simp only [zsz] at hz1); (try have g0 : w.heap.size < w1.heap.size := by omega); (try have g1 : w.heap.size + 1 < w1.heap.size := by omega); (try have g2 : w.heap.size + 2 < w1.heap.size := by omega); (try have gb : b < w1.heap.size := by omega); (try have g3 : w.heap.size + 3 < w1.heap.size := by omega); (try have hbb : Below w.heap.size w w1 := zw); (try obtain ⟨hco, hfo, _⟩ := bcell hbb); (try have hb1 := hb1))
  go_returns
  exact ⟨rfl, by exact zw⟩
theorem lfixed_any (v : Value) (p q t k : Int) (a : Int) (w : World) :
    Calls Try.prog 71 #[v, .agg #[.int .i64 p, .int .i64 q, .int .i64 t, .int .i64 k], .int .i64 a] w fun e w' => e = .returned (.int .u64 (manyOf t)) ∧ Below w.heap.size w w' := by
  obtain ⟨m0, m1⟩ := manyOf_bd t
  go_enter Try.func71, Try.ntmps71
  go_wp2_with (go_at_call 70; refine (elem_any _ _).mono ?_; rintro e w1 ⟨rfl, hb1⟩; obtain ⟨hc1, hf1, hl1⟩ := bcell hb1; (try simp only [zdz] at hc1 hf1 hl1); have hz1 := hb1.size; (try simp only [zsz] at hz1); (try have g0 : w.heap.size < w1.heap.size := by omega); (try have g1 : w.heap.size + 1 < w1.heap.size := by omega); (try have g2 : w.heap.size + 2 < w1.heap.size := by omega); (try have gb : b < w1.heap.size := by omega); (try have g3 : w.heap.size + 3 < w1.heap.size := by omega); (try have hbb : Below w.heap.size w w1 := zw); (try obtain ⟨hco, hfo, _⟩ := bcell hbb); (try have hb1 := hb1))
  go_returns
  exact ⟨rfl, by exact zw⟩
theorem lplace_any (sa : Option Addr) (sl sc : Nat) (p q t k f a z c : Int) (i : Int) (w : World) (h1 : 0 ≤ a) (h2 : a ≤ 1073741824) (h3 : 1 ≤ k) (h4 : k ≤ 8) (h5 : 0 ≤ i) (h6 : i ≤ 1073741824) :
    Calls Try.prog 106 #[.agg #[.slice sa sl sc, .int .i64 p, .int .i64 q, .int .i64 t, .int .i64 k, .int .i64 f, .int .i64 a, .int .i64 z, .int .i64 c], .int .i64 i] w fun e w' =>
      e = .returned (.agg #[.int .i64 (a + i * k), .int .i64 k, .int .i64 0, .int .i64 k]) ∧ Below w.heap.size w w' := by
  have hik : 0 ≤ i * k := Int.mul_nonneg h5 (by omega)
  have hik' : i * k ≤ 1073741824 * 8 := Int.mul_le_mul h6 h4 (by omega) (by omega)
  go_enter Try.func106, Try.ntmps106
  go_wp2
  (refine bodyPost_ret (v := .agg #[.int .i64 (a + i * k), .int .i64 k, .int .i64 0, .int .i64 k]) (by simp [results, Try.results106, go_sem, *]) rfl ?_)
  exact ⟨rfl, by exact zw⟩
theorem ltyped_any (sa : Option Addr) (sl sc : Nat) (p q t k f a z c : Int) (i : Int) (w : World) (h1 : 0 ≤ a) (h2 : a ≤ 1073741824) (h3 : 1 ≤ k) (h4 : k ≤ 8) (h5 : 0 ≤ i) (h6 : i ≤ 1073741824) :
    Calls Try.prog 72 #[.agg #[.slice sa sl sc, .int .i64 p, .int .i64 q, .int .i64 t, .int .i64 k, .int .i64 f, .int .i64 a, .int .i64 z, .int .i64 c], .int .i64 i] w fun e w' =>
      e = .returned (.tuple #[.agg #[.int .i64 (a + i * k), .int .i64 k, .int .i64 (elemOf t), .int .i64 k], .int .i64 0]) ∧ Below w.heap.size w w' := by
  go_enter Try.func72, Try.ntmps72
  go_wp2_with ((first | (go_at_call 106; refine (lplace_any _ _ _ _ _ _ _ _ _ _ _ _ _ h1 h2 h3 h4 h5 h6).mono ?_) | (go_at_call 70; refine (elem_any _ _).mono ?_)); rintro e w1 ⟨rfl, hb1⟩; obtain ⟨hc1, hf1, hl1⟩ := bcell hb1; (try simp only [zdz] at hc1 hf1 hl1); have hz1 := hb1.size; (try simp only [zsz] at hz1); (try have g0 : w.heap.size < w1.heap.size := by omega); (try have g1 : w.heap.size + 1 < w1.heap.size := by omega); (try have g2 : w.heap.size + 2 < w1.heap.size := by omega); (try have gb : b < w1.heap.size := by omega); (try have g3 : w.heap.size + 3 < w1.heap.size := by omega); (try have hbb : Below w.heap.size w w1 := zw); (try obtain ⟨hco, hfo, _⟩ := bcell hbb); (try have hb1 := hb1))
  (refine bodyPost_ret (v := .tuple #[.agg #[.int .i64 (a + i * k), .int .i64 k, .int .i64 (elemOf t), .int .i64 k], .int .i64 0]) (by simp [results, Try.results72, go_sem, *]) rfl ?_)
  exact ⟨rfl, by exact zw⟩
theorem ltagged_good (b o n cap : Nat) (L : List UInt8) (p q t k f a z c : Int) (i : Int) (w : World) (D : Doc w b o n cap L) (h1 : 0 ≤ a) (h2 : a ≤ 1073741824) (h3 : 1 ≤ k) (h4 : k ≤ 8) (h5 : 0 ≤ i) (h6 : i ≤ 1073741824) (h7 : 0 ≤ c) (h8 : c ≤ 1073741824)
    (hin : a + c * k + i < n) (y : UInt8) (hy : L.getD (a + c * k + i).toNat 0 = y) (hl : legalB ((y.toNat : Int) / 4) = true) :
    Calls Try.prog 74 #[.agg #[.slice (some ⟨b, o, none⟩) n cap, .int .i64 p, .int .i64 q, .int .i64 t, .int .i64 k, .int .i64 f, .int .i64 a, .int .i64 z, .int .i64 c], .int .i64 i] w fun e w' =>
      e = .returned (.tuple #[.agg #[.int .i64 (a + i * k), .int .i64 k, .int .i64 (unpackT y), .int .i64 (unpackW y)], .int .i64 0]) ∧ Below w.heap.size w w' := by
  have hck : 0 ≤ c * k := Int.mul_nonneg h7 (by omega)
  have hck' : c * k ≤ 1073741824 * 8 := Int.mul_le_mul h8 h4 (by omega) (by omega)
  obtain ⟨hn1, hn2⟩ := D.bd
  have hbw := D.lt
  have hby := D.byte (a + c * k + i).toNat (by omega)
  rw [hy] at hby
  have hyl := y.toNat_lt
  have u1 : unpackE y = 0 := by simp [unpackE, hl]
  clear hy hl
  go_enter Try.func74, Try.ntmps74
  go_wp2_with ((first | (go_at_call 106; refine (lplace_any _ _ _ _ _ _ _ _ _ _ _ _ _ h1 h2 h3 h4 h5 h6).mono ?_) | (go_at_call 43; refine (unpack_any _ _).mono ?_)); rintro e w1 ⟨rfl, hb1⟩; obtain ⟨hc1, hf1, hl1⟩ := bcell hb1; (try simp only [zdz] at hc1 hf1 hl1); have hz1 := hb1.size; (try simp only [zsz] at hz1); (try have g0 : w.heap.size < w1.heap.size := by omega); (try have g1 : w.heap.size + 1 < w1.heap.size := by omega); (try have g2 : w.heap.size + 2 < w1.heap.size := by omega); (try have gb : b < w1.heap.size := by omega); (try have g3 : w.heap.size + 3 < w1.heap.size := by omega); (try have hbb : Below w.heap.size w w1 := zw); (try obtain ⟨hco, hfo, _⟩ := bcell hbb); (try have hb1 := hb1))
  (refine bodyPost_ret (v := .tuple #[.agg #[.int .i64 (a + i * k), .int .i64 k, .int .i64 (unpackT y), .int .i64 (unpackW y)], .int .i64 0]) (by simp [results, Try.results74, go_sem, *]) rfl ?_)
  exact ⟨rfl, by exact zw⟩
theorem ltagged_bad (b o n cap : Nat) (L : List UInt8) (p q t k f a z c : Int) (i : Int) (w : World) (D : Doc w b o n cap L) (h1 : 0 ≤ a) (h2 : a ≤ 1073741824) (h3 : 1 ≤ k) (h4 : k ≤ 8) (h5 : 0 ≤ i) (h6 : i ≤ 1073741824) (h7 : 0 ≤ c) (h8 : c ≤ 1073741824)
    (hin : a + c * k + i < n) (y : UInt8) (hy : L.getD (a + c * k + i).toNat 0 = y) (hl : legalB ((y.toNat : Int) / 4) = false) :
    Calls Try.prog 74 #[.agg #[.slice (some ⟨b, o, none⟩) n cap, .int .i64 p, .int .i64 q, .int .i64 t, .int .i64 k, .int .i64 f, .int .i64 a, .int .i64 z, .int .i64 c], .int .i64 i] w fun e w' =>
      e = .returned (.tuple #[.agg #[.int .i64 0, .int .i64 0, .int .i64 0, .int .i64 0], .int .i64 20]) ∧ Below w.heap.size w w' := by
  have hck : 0 ≤ c * k := Int.mul_nonneg h7 (by omega)
  have hck' : c * k ≤ 1073741824 * 8 := Int.mul_le_mul h8 h4 (by omega) (by omega)
  obtain ⟨hn1, hn2⟩ := D.bd
  have hbw := D.lt
  have hby := D.byte (a + c * k + i).toNat (by omega)
  rw [hy] at hby
  have hyl := y.toNat_lt
  have u1 : unpackE y = 20 := by simp [unpackE, hl]
  clear hy hl
  go_enter Try.func74, Try.ntmps74
  go_wp2_with ((first | (go_at_call 106; refine (lplace_any _ _ _ _ _ _ _ _ _ _ _ _ _ h1 h2 h3 h4 h5 h6).mono ?_) | (go_at_call 43; refine (unpack_any _ _).mono ?_)); rintro e w1 ⟨rfl, hb1⟩; obtain ⟨hc1, hf1, hl1⟩ := bcell hb1; (try simp only [zdz] at hc1 hf1 hl1); have hz1 := hb1.size; (try simp only [zsz] at hz1); (try have g0 : w.heap.size < w1.heap.size := by omega); (try have g1 : w.heap.size + 1 < w1.heap.size := by omega); (try have g2 : w.heap.size + 2 < w1.heap.size := by omega); (try have gb : b < w1.heap.size := by omega); (try have g3 : w.heap.size + 3 < w1.heap.size := by omega); (try have hbb : Below w.heap.size w w1 := zw); (try obtain ⟨hco, hfo, _⟩ := bcell hbb); (try have hb1 := hb1))
  (refine bodyPost_ret (v := .tuple #[.agg #[.int .i64 0, .int .i64 0, .int .i64 0, .int .i64 0], .int .i64 20]) (by simp [results, Try.results74, go_sem, *]) rfl ?_)
  exact ⟨rfl, by exact zw⟩
end
section
open Go.RowKit
/-- The number of elements of a vector (before any check), and the bytes of an element with its tag. -/
def lcnt (L : List UInt8) (a t k : Int) : Int := if tagB t || manyOf t == 0 then loadV L (a - k) k else manyOf t
def eachOf (t k : Int) : Int := k + tagsOf t
/-- list.find's error. -/
def lfindE (L : List UInt8) (p q t k : Int) : Int :=
  if mayE L.length p q t k ≠ 0 then mayE L.length p q t k else if vectorB t = false then 60 else if targetE L p q t k ≠ 0 then targetE L p q t k
  else if targetV L p q t k % k ≠ 0 then 212 else if targetV L p q t k - aheadOf t * k < 0 then 211
  else if L.length < lcnt L (targetV L p q t k) t k ∨ (L.length : Int) < targetV L p q t k + lcnt L (targetV L p q t k) t k * eachOf t k then 211 else 0
/-- list.find's vector. -/
def lfindV (b o n cap : Nat) (L : List UInt8) (p q t k : Int) : Value :=
  if lfindE L p q t k = 0 then .agg #[.slice (some ⟨b, o, none⟩) n cap, .int .i64 p, .int .i64 q, .int .i64 t, .int .i64 k, .int .i64 (targetV L p q t k - aheadOf t * k), .int .i64 (targetV L p q t k),
    .int .i64 (targetV L p q t k + lcnt L (targetV L p q t k) t k * eachOf t k), .int .i64 (lcnt L (targetV L p q t k) t k)]
  else .agg #[.slice none 0 0, .int .i64 0, .int .i64 0, .int .i64 0, .int .i64 0, .int .i64 0, .int .i64 0, .int .i64 0, .int .i64 0]
theorem lfind_bad {b o n cap : Nat} {L : List UInt8} {p q t k x : Int} (h : lfindE L p q t k = x) (hx : x ≠ 0) :
    lfindV b o n cap L p q t k = .agg #[.slice none 0 0, .int .i64 0, .int .i64 0, .int .i64 0, .int .i64 0, .int .i64 0, .int .i64 0, .int .i64 0, .int .i64 0] := by
  subst h; simp [lfindV, hx]
/-- The layouts. -/
theorem layouts (t : Int) (h : legalB t = true) :
    (vectorB t = false ∧ manyFn t = .nilFunc ∧ elemFn t = .nilFunc) ∨
    (vectorB t = true ∧ (tagB t || manyOf t == 0) = true ∧ manyFn t = .func (.func 73) #[] #[] ∧ ∃ x, elemFn t = .func (.func x) #[] #[]) ∨
    (vectorB t = true ∧ (tagB t || manyOf t == 0) = false ∧ manyFn t = .func (.func 71) #[] #[] ∧ ∃ x, elemFn t = .func (.func x) #[] #[]) := by
  obtain ⟨h0, h1⟩ := kindOf_in h
  have : t = 0 ∨ t = 1 ∨ t = 2 ∨ t = 3 ∨ t = 4 ∨ t = 5 ∨ t = 6 ∨ t = 7 ∨ t = 8 ∨ t = 9 ∨ t = 10 ∨ t = 11 ∨ t = 12 ∨ t = 13 ∨ t = 14 ∨ t = 15 ∨ t = 16 ∨ t = 17 ∨ t = 18 ∨ t = 19 ∨ t = 20 ∨ t = 21 ∨ t = 22 ∨ t = 23 ∨ t = 24 ∨ t = 25 ∨ t = 26 ∨ t = 27 ∨ t = 28 ∨ t = 29 ∨ t = 30 ∨ t = 31 ∨ t = 32 ∨ t = 33 ∨ t = 34 ∨ t = 35 ∨ t = 36 := by omega
  rcases this with rfl | rfl | rfl | rfl | rfl | rfl | rfl | rfl | rfl | rfl | rfl | rfl | rfl | rfl | rfl | rfl | rfl | rfl | rfl | rfl | rfl | rfl | rfl | rfl | rfl | rfl | rfl | rfl | rfl | rfl | rfl | rfl | rfl | rfl | rfl | rfl | rfl
  all_goals first
    | (exact absurd h (by decide))
    | (exact .inl ⟨by decide, rfl, rfl⟩)
    | (exact .inr (.inl ⟨by decide, by decide, rfl, _, rfl⟩))
    | (exact .inr (.inr ⟨by decide, by decide, rfl, _, rfl⟩))
theorem aheadOf_bd (t : Int) : 0 ≤ aheadOf t ∧ aheadOf t ≤ 3 := by
  unfold aheadOf; (repeat' split) <;> omega
theorem tagsOf_bd (t : Int) : 0 ≤ tagsOf t ∧ tagsOf t ≤ 1 := by
  unfold tagsOf; split <;> omega
theorem lcnt_bd (L : List UInt8) (a t k : Int) : 0 ≤ lcnt L a t k ∧ lcnt L a t k < 18446744073709551616 := by
  unfold lcnt; split
  · exact ⟨loadV_nonneg _ _ _, loadV_lt _ _ _⟩
  · have := manyOf_bd t; omega
set_option maxRecDepth 100000 in
set_option maxHeartbeats 4000000 in
theorem lfind_none (b o n cap : Nat) (L : List UInt8) (p q t k : Int) (w : World) (D : Doc w b o n cap L) (hm1 : mayE n p q t k = 0) (g1 : vectorB t = false) (g2 : manyFn t = .nilFunc) (g3 : elemFn t = .nilFunc) :
    Calls Try.prog 38 #[.slice (some ⟨b, o, none⟩) n cap, .agg #[.int .i64 p, .int .i64 q, .int .i64 t, .int .i64 k]] w fun e w' =>
      e = .returned (.tuple #[lfindV b o n cap L p q t k, .int .i64 (lfindE L p q t k)]) ∧ Below w.heap.size w w' := by
  obtain ⟨hn1, hn2⟩ := D.bd
  have hlen := Lib.hid D.len
  have hbw := D.lt
  have hmax : n ≤ maxLen := Nat.le_trans D.le D.max
  obtain ⟨h1, h2, h3, h4, h5, h6, h7, h8, h9⟩ := mayE_zero hm1
  obtain ⟨t0, t1⟩ := kindOf_in h1
  have hix := shapes_index t t0 t1
  have hE0 := Lib.hid (show mayE L.length p q t k = 0 by rw [hlen.out]; exact hm1)
  clear h1 h2 h3
  have e1 := Lib.hid (show lfindE L p q t k = 60 by simp [lfindE, hE0.out, g1])
  have e2 := Lib.hid (lfind_bad (b := b) (o := o) (n := n) (cap := cap) e1.out (by decide))
  rw [g2, g3] at hix
  clear g1 g2 g3
  go_enter Try.func38, Try.ntmps38
  go_upto_region 4 with (go_at_call 32; refine (may_any _ _ _ _ L _ _ _ _ _ (D.below zw)).mono ?_; rintro e w1 ⟨rfl, hb1⟩; obtain ⟨hc1, hf1, hl1⟩ := bcell hb1; (try simp only [zdz] at hc1 hf1 hl1); have hz1 := hb1.size; (try simp only [zsz] at hz1); (try have g0 : w.heap.size < w1.heap.size := by omega); (try have g1 : w.heap.size + 1 < w1.heap.size := by omega); (try have g2 : w.heap.size + 2 < w1.heap.size := by omega); (try have gb : b < w1.heap.size := by omega); (try have g3 : w.heap.size + 3 < w1.heap.size := by omega); (try have hbb : Below w.heap.size w w1 := zw); (try obtain ⟨hco, hfo, _⟩ := bcell hbb); (try have hb1 := hb1))
  go_cut [7] (fun s7 wx => ∃ g : Nat, s7 = .pointer (some ⟨g, 0, none⟩) ∧ Below w1.heap.size w1 wx ∧ w1.heap.size ≤ g ∧ g < wx.heap.size ∧ wx.cell? ⟨g, 0, none⟩ = some (.int .i64 (aheadOf t)) ∧ wx.cell? ⟨g, 1, none⟩ = some .nilFunc ∧ wx.cell? ⟨g, 2, none⟩ = some .nilFunc ∧ wx.cell? ⟨g, 3, none⟩ = some (.int .i64 (tagsOf t)))
  case first =>
    go_region_with (go_at_call 39; refine (shapes_any _).mono ?_; rintro e w1 ⟨rfl, hb1⟩; obtain ⟨hc1, hf1, hl1⟩ := bcell hb1; (try simp only [zdz] at hc1 hf1 hl1); have hz1 := hb1.size; (try simp only [zsz] at hz1); (try have g0 : w.heap.size < w1.heap.size := by omega); (try have g1 : w.heap.size + 1 < w1.heap.size := by omega); (try have g2 : w.heap.size + 2 < w1.heap.size := by omega); (try have gb : b < w1.heap.size := by omega); (try have g3 : w.heap.size + 3 < w1.heap.size := by omega); (try have hbb : Below w.heap.size w w1 := zw); (try obtain ⟨hco, hfo, _⟩ := bcell hbb); (try have hb1 := hb1))
    all_goals (go_wp2_with fail; go_meet; exact ⟨_, rfl, by exact zw, by (first | omega | (simp; omega) | simp), by (first | omega | (simp; omega) | simp), by go_simp, by go_simp, by go_simp, by go_simp⟩)
  case rest =>
    obtain ⟨g, rfl, hb2, hg1, hg2, k0, k1, k2, k3⟩ := hcut
    obtain ⟨hc2, hf2, hl2⟩ := bcell hb2
    have hz2 := hb2.size
    have j0 : w.heap.size < wc.heap.size := by omega
    have j1 : w.heap.size + 1 < wc.heap.size := by omega
    have hbc : Below w.heap.size w wc := by exact zw
    have hb2 := hb2
    go_wp2_with (go_at_call 69; refine (target_any _ _ _ _ L _ _ _ _ _ (D.below zw)).mono ?_; rintro e w1 ⟨rfl, hb1⟩; obtain ⟨hc1, hf1, hl1⟩ := bcell hb1; (try simp only [zdz] at hc1 hf1 hl1); have hz1 := hb1.size; (try simp only [zsz] at hz1); (try have g0 : w.heap.size < w1.heap.size := by omega); (try have g1 : w.heap.size + 1 < w1.heap.size := by omega); (try have g2 : w.heap.size + 2 < w1.heap.size := by omega); (try have gb : b < w1.heap.size := by omega); (try have g3 : w.heap.size + 3 < w1.heap.size := by omega); (try have hbb : Below w.heap.size w w1 := zw); (try obtain ⟨hco, hfo, _⟩ := bcell hbb); (try have hb1 := hb1))
    (refine bodyPost_ret (v := .tuple #[.agg #[.slice none 0 0, .int .i64 0, .int .i64 0, .int .i64 0, .int .i64 0, .int .i64 0, .int .i64 0, .int .i64 0, .int .i64 0], .int .i64 60]) (by simp [results, Try.results38, go_sem, *]) rfl ?_)
    exact ⟨by rw [e1.out, e2.out], by exact zw⟩
end
end Go.Proofs.Ytmpflnlajakibaa
