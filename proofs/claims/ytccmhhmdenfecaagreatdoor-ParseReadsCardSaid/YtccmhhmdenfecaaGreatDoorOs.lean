/- The walks of accordionref11.Reader's fail, next, is, must: written by wip/gen/oh.py. accordionref07.Check; the plain laws of the reference's loops; the walk of accordionref11.Reader's value: written by wip/gen/oi.py. The walk of accordionref11.Reader's value, whole, under the contracts of list and members: written by wip/gen/oj.py. The walk of accordionref11.Reader's list. -/
import Derived.Test.YtccmhhmdenfecaaGreatDoorNt
import Derived.Test.YtccmhhmdenfecaaGreatDoorJk
import Derived.Test.YtccmhhmdenfecaaGreatDoorJg
import Derived.Lib.IndexLaws
namespace Go.Proofs.YtccmhhmdenfecaaGreatDoor
set_option linter.unusedVariables false
set_option linter.unusedSimpArgs false
section
open Go.RowKit Go.Shelf
/-- The reference's reader lies in block R. -/
def RRow (w : World) (R : Nat) (s : List UInt8) (t : Tok) (many at_ e : Int) : Prop :=
  w.heap[R]? = some (.cells #[strV s, .int .i64 t.kind, .int .i64 t.from_, .int .i64 t.to_, .int .i64 t.n, .int .u64 t.u, strV t.text, .int .i64 many, .int .i64 at_, .int .i64 e] 66 (0, 0)) ∧ t.text.length ≤ 4294967296 ∧ 0 ≤ t.kind ∧ t.kind ≤ 12
theorem RRow.lt {w : World} {R : Nat} {s : List UInt8} {t : Tok} {many at_ e : Int} (h : RRow w R s t many at_ e) : R < w.heap.size := (Array.getElem?_eq_some_iff.1 h.1).1
theorem RRow.cells {w : World} {R : Nat} {s : List UInt8} {t : Tok} {many at_ e : Int} (h : RRow w R s t many at_ e) :
    w.cell? ⟨R, 0, none⟩ = some (strV s) ∧ w.cell? ⟨R, 1, none⟩ = some (.int .i64 t.kind) ∧ w.cell? ⟨R, 2, none⟩ = some (.int .i64 t.from_) ∧ w.cell? ⟨R, 3, none⟩ = some (.int .i64 t.to_) ∧ w.cell? ⟨R, 4, none⟩ = some (.int .i64 t.n) ∧ w.cell? ⟨R, 5, none⟩ = some (.int .u64 t.u) ∧ w.cell? ⟨R, 6, none⟩ = some (strV t.text) ∧ w.cell? ⟨R, 7, none⟩ = some (.int .i64 many) ∧ w.cell? ⟨R, 8, none⟩ = some (.int .i64 at_) ∧ w.cell? ⟨R, 9, none⟩ = some (.int .i64 e) ∧ ∀ i, w.frozen? ⟨R, i, none⟩ = false :=
  ⟨cell_of_row _ _ _ _ _ _ h.1, cell_of_row _ _ _ _ _ _ h.1, cell_of_row _ _ _ _ _ _ h.1, cell_of_row _ _ _ _ _ _ h.1, cell_of_row _ _ _ _ _ _ h.1, cell_of_row _ _ _ _ _ _ h.1, cell_of_row _ _ _ _ _ _ h.1, cell_of_row _ _ _ _ _ _ h.1, cell_of_row _ _ _ _ _ _ h.1, cell_of_row _ _ _ _ _ _ h.1, fun i => frozen_of_row _ _ _ _ _ h.1⟩
theorem RRow.same {w w' : World} {R : Nat} {s : List UInt8} {t : Tok} {many at_ e : Int} (h : RRow w R s t many at_ e) (he : w'.heap[R]? = w.heap[R]?) : RRow w' R s t many at_ e := ⟨he.trans h.1, h.2⟩
/-- The reader's state: the next token, or the first error. -/
def RSt (w : World) (R : Nat) (s : List UInt8) (m : Int) (x : PE Tok) : Prop := match x with
  | .ok t => RRow w R s t m 0 0
  | .error y => y.2 ≠ 0 ∧ ∃ t, RRow w R s t m y.1 y.2
theorem RSt.row {w : World} {R : Nat} {s : List UInt8} {m : Int} {x : PE Tok} (h : RSt w R s m x) : ∃ t a e, RRow w R s t m a e := by
  cases x with
  | ok t => exact ⟨_, _, _, h⟩
  | error y => obtain ⟨-, t, h⟩ := h; exact ⟨_, _, _, h⟩
theorem RSt.lt {w : World} {R : Nat} {s : List UInt8} {m : Int} {x : PE Tok} (h : RSt w R s m x) : R < w.heap.size := by
  obtain ⟨t, a, e, h⟩ := h.row
  exact h.lt
theorem RSt.same {w w' : World} {R : Nat} {s : List UInt8} {m : Int} {x : PE Tok} (h : RSt w R s m x) (he : w'.heap[R]? = w.heap[R]?) : RSt w' R s m x := by
  cases x with
  | ok t => exact RRow.same h he
  | error y => obtain ⟨h0, t, h⟩ := h; exact ⟨h0, t, h.same he⟩
theorem RSt.below {w w' : World} {R : Nat} {s : List UInt8} {m : Int} {x : PE Tok} (h : RSt w R s m x) (hb : Below w.heap.size w w') : RSt w' R s m x := h.same (hb.block _ h.lt)
theorem RSt.many {w : World} {R : Nat} {s : List UInt8} {m : Int} {x : PE Tok} (h : RSt w R s m x) : w.cell? ⟨R, 7, none⟩ = some (.int .i64 m) := by
  obtain ⟨t, a, e, h⟩ := h.row
  exact h.cells.2.2.2.2.2.2.2.1
def failP (x : PE Tok) (at_ e : Int) : PE Tok := match x with
  | .ok _ => .error (at_, e)
  | .error y => .error y
def nextS (s : List UInt8) (x : PE Tok) : PE Tok := match x with
  | .ok t => nextP s t
  | .error y => .error y
def isP (x : PE Tok) (k : Int) : Bool := match x with
  | .ok t => t.kind == k
  | .error _ => false
def mustS (s : List UInt8) (x : PE Tok) (k : Int) : PE Tok := match x with
  | .ok t => if t.kind = k then nextP s t else .error (t.from_, 100)
  | .error y => .error y
theorem setr2 {w : World} {R : Nat} {a0 a1 a2 a3 a4 a5 a6 a7 a8 a9 : Value} {ty : TypeId} (h : w.heap[R]? = some (.cells #[a0, a1, a2, a3, a4, a5, a6, a7, a8, a9] ty (0, 0))) (v8 v9 : Value) :
    ((w.setCell ⟨R, 9, none⟩ v9).setCell ⟨R, 8, none⟩ v8).heap[R]? = some (.cells #[a0, a1, a2, a3, a4, a5, a6, a7, v8, v9] ty (0, 0)) := by
  have h0 := heap_setCell_same w R 9 _ _ v9 h
  simp only [List.setIfInBounds_toArray, List.set_cons_zero, List.set_cons_succ] at h0
  have h1 := heap_setCell_same _ R 8 _ _ v8 h0
  simp only [List.setIfInBounds_toArray, List.set_cons_zero, List.set_cons_succ] at h1
  exact h1
theorem set6_r {w : World} {R : Nat} {a0 a1 a2 a3 a4 a5 a6 a7 a8 a9 : Value} {ty : TypeId} (h : w.heap[R]? = some (.cells #[a0, a1, a2, a3, a4, a5, a6, a7, a8, a9] ty (0, 0))) (v0 v1 v2 v3 v4 v5 : Value) :
    ((((((w.setCell ⟨R, 1, none⟩ v0).setCell ⟨R, 2, none⟩ v1).setCell ⟨R, 3, none⟩ v2).setCell ⟨R, 4, none⟩ v3).setCell ⟨R, 5, none⟩ v4).setCell ⟨R, 6, none⟩ v5).heap[R]? = some (.cells #[a0, v0, v1, v2, v3, v4, v5, a7, a8, a9] ty (0, 0)) := by
  have h0 := heap_setCell_same w R 1 _ _ v0 h
  simp only [List.setIfInBounds_toArray, List.set_cons_zero, List.set_cons_succ] at h0
  have h1 := heap_setCell_same _ R 2 _ _ v1 h0
  simp only [List.setIfInBounds_toArray, List.set_cons_zero, List.set_cons_succ] at h1
  have h2 := heap_setCell_same _ R 3 _ _ v2 h1
  simp only [List.setIfInBounds_toArray, List.set_cons_zero, List.set_cons_succ] at h2
  have h3 := heap_setCell_same _ R 4 _ _ v3 h2
  simp only [List.setIfInBounds_toArray, List.set_cons_zero, List.set_cons_succ] at h3
  have h4 := heap_setCell_same _ R 5 _ _ v4 h3
  simp only [List.setIfInBounds_toArray, List.set_cons_zero, List.set_cons_succ] at h4
  have h5 := heap_setCell_same _ R 6 _ _ v5 h4
  simp only [List.setIfInBounds_toArray, List.set_cons_zero, List.set_cons_succ] at h5
  exact h5
/-- The reference's fail. -/
theorem rfail_any (s : List UInt8) (x : PE Tok) (m : Int) (R : Nat) (at_ e : Int) (he : e ≠ 0) (w : World) (h : RSt w R s m x) :
    Calls Tryz.prog 31 #[.pointer (some ⟨R, 0, none⟩), .int .i64 at_, .int .i64 e] w fun o w' => o = .returned (.tuple #[]) ∧ RSt w' R s m (failP x at_ e) ∧ Touch [R] w w' := by
  cases x with
  | ok t =>
    have h1 : RRow w R s t m 0 0 := h
    obtain ⟨-, -, -, -, -, -, -, -, c8, c9, cf⟩ := h1.cells
    have f8 := cf 8
    have f9 := cf 9
    have HP := Lib.hid h1
    have HE := Lib.hid he
    clear h h1 cf he
    go_enter Tryz.func31, Tryz.ntmps31
    go_wp2
    go_end0
    exact ⟨rfl, ⟨HE.out, t, setr2 HP.out.1 _ _, HP.out.2⟩, (Touch.setCell w R 9 _).trans (Touch.setCell _ R 8 _)⟩
  | error y =>
    obtain ⟨h0, t, h1⟩ := h
    obtain ⟨-, -, -, -, -, -, -, -, c8, c9, cf⟩ := h1.cells
    have ez : (y.2 == 0) = false := by simp [h0]
    have HP := Lib.hid h1
    have H0 := Lib.hid h0
    clear h1 cf h0 he
    obtain ⟨y1, y2⟩ := y
    dsimp only at ez c8 c9
    go_enter Tryz.func31, Tryz.ntmps31
    go_wp2
    go_end0
    exact ⟨rfl, ⟨H0.out, t, HP.out⟩, Touch.refl _ _⟩
/-- The reference's is. -/
theorem risr_any (s : List UInt8) (x : PE Tok) (m : Int) (R : Nat) (k : Int) (w : World) (h : RSt w R s m x) :
    Calls Tryz.prog 98 #[.pointer (some ⟨R, 0, none⟩), .int .i64 k] w fun o w' => o = .returned (.bool (isP x k)) ∧ w = w' := by
  cases x with
  | ok t =>
    have h1 : RRow w R s t m 0 0 := h
    obtain ⟨-, c1, -, -, -, -, -, -, -, c9, -⟩ := h1.cells
    obtain ⟨b, hb⟩ : ∃ b, b = (t.kind == k) := ⟨_, rfl⟩
    have HBB := Lib.hid hb
    have hb2 := hb.symm
    clear h h1 hb
    show Calls Tryz.prog 98 _ w fun o w' => o = .returned (.bool (t.kind == k)) ∧ w = w'
    go_enter Tryz.func98, Tryz.ntmps98
    go_wp2
    go_returns
    exact ⟨congrArg (fun b => Ending.returned (.bool b)) HBB.out, rfl⟩
  | error y =>
    obtain ⟨h0, t, h1⟩ := h
    obtain ⟨-, c1, -, -, -, -, -, -, -, c9, -⟩ := h1.cells
    have ez : (y.2 == 0) = false := by simp [h0]
    obtain ⟨y1, y2⟩ := y
    dsimp only at ez c9
    clear h0 h1
    show Calls Tryz.prog 98 _ w fun o w' => o = .returned (.bool false) ∧ w = w'
    go_enter Tryz.func98, Tryz.ntmps98
    go_wp2
    go_returns
    exact ⟨rfl, rfl⟩
theorem opwp_faQ0 {o : Oper} {a : Act} {w : World} {K : Act → World → Prop} {Q : Exit → Act → World → Prop} {x : Tmp} {b off : Nat} (hop : o.op = .fieldAddr 66 (.tmp x) 0) (hx : a.eval (.tmp x) = .pointer (some ⟨b, off, none⟩)) (hK : K (a.put o.dst (.pointer (some ⟨b, off, none⟩))) w) : o.wp Tryz.prog a w K Q := by
  refine opwp_val (w' := w) (.pointer (some ⟨b, off, none⟩)) ?_ hK
  simp only [execOp, hop, hx]
  go_simp
theorem opwp_faQ1 {o : Oper} {a : Act} {w : World} {K : Act → World → Prop} {Q : Exit → Act → World → Prop} {x : Tmp} {b off : Nat} (hop : o.op = .fieldAddr 66 (.tmp x) 1) (hx : a.eval (.tmp x) = .pointer (some ⟨b, off, none⟩)) (hK : K (a.put o.dst (.pointer (some ⟨b, off + 1, none⟩))) w) : o.wp Tryz.prog a w K Q := by
  refine opwp_val (w' := w) (.pointer (some ⟨b, off + 1, none⟩)) ?_ hK
  simp only [execOp, hop, hx]
  go_simp
theorem opwp_faJ2 {o : Oper} {a : Act} {w : World} {K : Act → World → Prop} {Q : Exit → Act → World → Prop} {x : Tmp} {b off : Nat} (hop : o.op = .fieldAddr 64 (.tmp x) 2) (hx : a.eval (.tmp x) = .pointer (some ⟨b, off, none⟩)) (hK : K (a.put o.dst (.pointer (some ⟨b, off + 2, none⟩))) w) : o.wp Tryz.prog a w K Q := by
  refine opwp_val (w' := w) (.pointer (some ⟨b, off + 2, none⟩)) ?_ hK
  simp only [execOp, hop, hx]
  go_simp
/-- A token's own block: made, then written. -/
def blkR (kd fr to1 n1 u1 : Int) (tx : List UInt8) (b : Nat) (S : Nat → Bool) (w : World) : Prop :=
  w.heap[b]? = some (.cells (if S 14 = true then #[.int .i64 kd, .int .i64 fr, .int .i64 to1, .int .i64 n1, .int .u64 u1, .string ⟨tx.toArray⟩] else #[.int .i64 0, .int .i64 0, .int .i64 0, .int .i64 0, .int .u64 0, .string ⟨#[]⟩]) 64 (0, 0))
theorem blkR_st (kd fr to1 n1 u1 : Int) (tx : List UInt8) : ∀ (b : Nat) (S : Nat → Bool) (w w' : World), b < w.heap.size → Below w.heap.size w w' → blkR kd fr to1 n1 u1 tx b S w → blkR kd fr to1 n1 u1 tx b S w' :=
  fun b S w w' hb h hk => (h.block b hb).trans hk
theorem blkR_sc (kd fr to1 n1 u1 : Int) (tx : List UInt8) : ∀ (b : Nat) (S S' : Nat → Bool) (w : World), (∀ i ∈ [14], S i = S' i) → blkR kd fr to1 n1 u1 tx b S w → blkR kd fr to1 n1 u1 tx b S' w := by
  intro b S S' w h hk
  unfold blkR at hk ⊢
  rwa [← h 14 (by decide)]
set_option maxHeartbeats 2000000 in
theorem opwp_storeR {o : Oper} {a : Act} {w : World} {K : Act → World → Prop} {Q : Exit → Act → World → Prop} {x y : Tmp} {b : Nat} {z0 z1 z2 z3 z4 z5 : Value} {v0 v1 v2 v3 : Int} {v4 : Int} {v5 : ByteArray} (hop : o.op = .store 64 (.tmp x) (.tmp y)) (hd : o.dst = none)
    (hx : a.eval (.tmp x) = .pointer (some ⟨b, 0, none⟩)) (hy : a.eval (.tmp y) = .agg #[.int .i64 v0, .int .i64 v1, .int .i64 v2, .int .i64 v3, .int .u64 v4, .string v5])
    (h : w.heap[b]? = some (.cells #[z0, z1, z2, z3, z4, z5] 64 (0, 0)))
    (hK : ∀ w', w'.heap[b]? = some (.cells #[.int .i64 v0, .int .i64 v1, .int .i64 v2, .int .i64 v3, .int .u64 v4, .string v5] 64 (0, 0)) → ExtB b w w' → w'.heap.size = w.heap.size → (∀ w0 : World, w0.heap.size ≤ b → Below w0.heap.size w0 w → Below w0.heap.size w0 w') → K a w') : o.wp Tryz.prog a w K Q := by
  obtain ⟨n0, n1, n2, n3, n4, n5⟩ : w.cell? ⟨b, 0, none⟩ = some z0 ∧ w.cell? ⟨b, 1, none⟩ = some z1 ∧ w.cell? ⟨b, 2, none⟩ = some z2 ∧ w.cell? ⟨b, 3, none⟩ = some z3 ∧ w.cell? ⟨b, 4, none⟩ = some z4 ∧ w.cell? ⟨b, 5, none⟩ = some z5 := ⟨cell_of_row _ _ _ _ _ _ h, cell_of_row _ _ _ _ _ _ h, cell_of_row _ _ _ _ _ _ h, cell_of_row _ _ _ _ _ _ h, cell_of_row _ _ _ _ _ _ h, cell_of_row _ _ _ _ _ _ h⟩
  have f0 : w.frozen? ⟨b, 0, none⟩ = false := frozen_of_row _ _ _ _ _ h
  have f1 : w.frozen? ⟨b, 1, none⟩ = false := frozen_of_row _ _ _ _ _ h
  have f2 : w.frozen? ⟨b, 2, none⟩ = false := frozen_of_row _ _ _ _ _ h
  have f3 : w.frozen? ⟨b, 3, none⟩ = false := frozen_of_row _ _ _ _ _ h
  have f4 : w.frozen? ⟨b, 4, none⟩ = false := frozen_of_row _ _ _ _ _ h
  have f5 : w.frozen? ⟨b, 5, none⟩ = false := frozen_of_row _ _ _ _ _ h
  have hrow := row6_tok h (.int .i64 v0) (.int .i64 v1) (.int .i64 v2) (.int .i64 v3) (.int .u64 v4) (.string v5)
  have HK := Lib.hid hK
  clear hK
  have e : (execOp a.eval o).run Tryz.prog w = .ok .skip ((((((w.setCell ⟨b, 0, none⟩ (.int .i64 v0)).setCell ⟨b, 1, none⟩ (.int .i64 v1)).setCell ⟨b, 2, none⟩ (.int .i64 v2)).setCell ⟨b, 3, none⟩ (.int .i64 v3)).setCell ⟨b, 4, none⟩ (.int .u64 v4)).setCell ⟨b, 5, none⟩ (.string v5)) := by
    clear h hrow HK
    simp only [execOp, hop, hx, hy]
    go_simp
  unfold Oper.wp
  rw [e, Oper.upon_skip, hd]
  exact HK.out _ hrow ⟨by simp, fun k hk hne => (touch6 (Y := b) (w := w) _ _ _ _ _ _).block k hk (by simpa using hne)⟩ (by simp) (fun w0 hb1 hb => below_six hb hb1 _ _ _ _ _ _)
def pRx (R : Nat) (s : List UInt8) (tk : Tok) (kd fr to1 n1 : Int) (u1 : Int) (tx : List UInt8) (er : Int) : Posts := fun b t v w => match t with
  | 0 => v = .pointer (some ⟨R, 0, none⟩)
  | 10 => v = .pointer (some ⟨R, 0, none⟩)
  | 11 => v = .pointer (some ⟨R, 0, none⟩)
  | 12 => v = .pointer (some ⟨R, 0, none⟩)
  | 13 => v = .string ⟨s.toArray⟩
  | 14 => v = .pointer (some ⟨R, 0, none⟩)
  | 15 => v = .pointer (some ⟨R, 0, none⟩)
  | 16 => v = .pointer (some ⟨R, 1, none⟩)
  | 17 => v = .pointer (some ⟨R, 3, none⟩)
  | 18 => v = .int .i64 tk.to_
  | 19 => v = .tuple #[.agg #[.int .i64 kd, .int .i64 fr, .int .i64 to1, .int .i64 n1, .int .u64 u1, .string ⟨tx.toArray⟩], .int .i64 er]
  | 9 => v = .tuple #[.agg #[.int .i64 kd, .int .i64 fr, .int .i64 to1, .int .i64 n1, .int .u64 u1, .string ⟨tx.toArray⟩], .int .i64 er]
  | 20 => v = .agg #[.int .i64 kd, .int .i64 fr, .int .i64 to1, .int .i64 n1, .int .u64 u1, .string ⟨tx.toArray⟩]
  | 21 => v = .int .i64 er
  | 2 => v = .pointer (some ⟨b, 0, none⟩)
  | 3 => v = .int .i64 er
  | _ => True
theorem pRx_st (R : Nat) (s : List UInt8) (tk : Tok) (kd fr to1 n1 : Int) (u1 : Int) (tx : List UInt8) (er : Int) : ∀ (b : Nat) (t : Tmp) (v : Value) (w w' : World), ExtB b w w' → pRx R s tk kd fr to1 n1 u1 tx er b t v w → pRx R s tk kd fr to1 n1 u1 tx er b t v w' := by
  intro b t v w w' hE
  unfold pRx
  split
  · exact id
  · exact id
  · exact id
  · exact id
  · exact id
  · exact id
  · exact id
  · exact id
  · exact id
  · exact id
  · exact id
  · exact id
  · exact id
  · exact id
  · exact id
  · exact id
  · exact id
set_option maxHeartbeats 8000000 in
set_option maxRecDepth 100000 in
/-- The reference's next. -/
theorem rnextr_ok (s : List UInt8) (tk : Tok) (many : Int) (R : Nat) (w : World) (h : RRow w R s tk many 0 0) (hl : s.length ≤ 1073741824) :
    Calls Tryz.prog 29 #[.pointer (some ⟨R, 0, none⟩)] w fun o w' => o = .returned (.tuple #[]) ∧ RSt w' R s many (nextP s tk) ∧ Touch [R] w w' := by
  obtain ⟨c0, c1, c2, c3, c4, c5, c6, c7, c8, c9, cf⟩ := h.cells
  have hR := h.lt
  have HP := Lib.hid h
  have HL := Lib.hid fun (W : World) => rnext_any s tk.to_ W hl
  have HFL := Lib.hid fun (W : World) (a e : Int) (he : e ≠ 0) (hW : RSt W R s many (.ok tk)) => rfail_any s (.ok tk) many R a e he W hW
  have htx := next_text s tk.to_
  have hkb := next_kindb s tk.to_
  unfold nextP
  generalize nextM s tk.to_ = q at *
  obtain ⟨⟨kd, fr, to1, n1, u1, tx⟩, er⟩ := q
  unfold trV tokV strV at HL
  unfold strV at c0 c6
  dsimp only at HL htx hkb ⊢
  clear h c1 c2 c4 c5 c6 c7 c8
  generalize hres : (if er ≠ 0 then (.error (fr, er) : PE Tok) else .ok ⟨kd, fr, to1, n1, u1, tx⟩) = res
  have HR := Lib.hid hres
  clear hres cf
  go_enter Tryz.func29, Tryz.ntmps29
  go_upto_region 1 with fail
  refine wp_region_eachMP (n := 33) (ia := 13) (ob := .cells #[.int .i64 0, .int .i64 0, .int .i64 0, .int .i64 0, .int .u64 0, .string ⟨#[]⟩] 64) [14] [10, 11, 12, 13, 14, 15, 16, 17, 18, 19, 9, 20, 21, 2, 3] (pRx R s tk kd fr to1 n1 u1 tx er) (blkR kd fr to1 n1 u1 tx) (by kernel_rfl) (by kernel_rfl) rfl (by kernel_rfl) (pRx_st R s tk kd fr to1 n1 u1 tx er) (blkR_st kd fr to1 n1 u1 tx) (blkR_sc kd fr to1 n1 u1 tx) ?_ rfl rfl rfl (V := fun b => .pointer (some ⟨b, 0, none⟩)) ?_ (fun _ _ => rfl) ?_ (by decide) (by decide) ?_ ?_ ?_ ?_
  · intro b hb t ht
    unfold pRx
    split
    · rfl
    · exact absurd rfl (ht 0 _ rfl)
    · exact absurd rfl (ht 1 _ rfl)
    · exact absurd rfl (ht 2 _ rfl)
    · exact absurd rfl (ht 3 _ rfl)
    · exact absurd rfl (ht 4 _ rfl)
    · exact absurd rfl (ht 5 _ rfl)
    · exact absurd rfl (ht 6 _ rfl)
    · exact absurd rfl (ht 7 _ rfl)
    · exact absurd rfl (ht 8 _ rfl)
    · exact absurd rfl (ht 9 _ rfl)
    · exact absurd rfl (ht 10 _ rfl)
    · exact absurd rfl (ht 11 _ rfl)
    · exact absurd rfl (ht 12 _ rfl)
    · exact absurd rfl (ht 13 _ rfl)
    · exact absurd rfl (ht 15 _ rfl)
    · trivial
  · intro a w K hK
    exact opwp_val (w' := w.alloc (.cells #[.int .i64 0, .int .i64 0, .int .i64 0, .int .i64 0, .int .u64 0, .string ⟨#[]⟩] 64)) (.pointer (some ⟨w.heap.size, 0, none⟩)) (by simp only [execOp]; go_simp) hK
  · intro w
    exact heap_alloc_new _ _
  · intro i hi os hos
    simp only [List.mem_cons, List.not_mem_nil, or_false] at hi
    subst hi
    all_goals
      simp only [List.getElem?_toArray, List.getElem?_cons_zero, List.getElem?_cons_succ, Option.some.injEq] at hos
      subst hos
      exact ⟨rfl, by kernel_rfl⟩
  · intro i hi os hos b S a w hb hb1 hb2 hk hSi hblk
    simp only [List.mem_cons, List.not_mem_nil, or_false] at hi
    subst hi
    · simp only [List.getElem?_toArray, List.getElem?_cons_zero, List.getElem?_cons_succ, Option.some.injEq] at hos
      subst hos
      have e2 : a.eval (.tmp 2) = .pointer (some ⟨b, 0, none⟩) := hk 2 (by decide)
      have e20 : a.eval (.tmp 20) = .agg #[.int .i64 kd, .int .i64 fr, .int .i64 to1, .int .i64 n1, .int .u64 u1, .string ⟨tx.toArray⟩] := hk 20 (by decide)
      unfold blkR at hblk
      rw [hSi, if_neg (by decide)] at hblk
      refine ⟨rfl, opwp_storeR rfl rfl e2 e20 hblk ?_⟩
      intro w' q1 q2 q3 q4
      exact ⟨rfl, q2, q3, q4 _ hb1 hb, by unfold blkR; rw [if_pos (if_pos rfl)]; exact q1⟩
  · intro jq oq hjq hne1 hne2
    match jq, hjq, hne1, hne2 with
    | 0, hjq, _, _ =>
      simp only [List.getElem?_toArray, List.getElem?_cons_zero, List.getElem?_cons_succ, Option.some.injEq] at hjq
      subst hjq
      intro B a w hB hb hk
      obtain ⟨b0, hb0⟩ := hB
      have e0 : a.eval (.tmp 0) = .pointer (some ⟨R, 0, none⟩) := hk b0 hb0 0 (by decide)
      refine ⟨rfl, opwp_move rfl e0 ?_⟩
      exact ⟨Below.refl _ _, _, rfl, fun d hd b _ _ => by cases hd; rfl⟩
    | 1, hjq, _, _ =>
      simp only [List.getElem?_toArray, List.getElem?_cons_zero, List.getElem?_cons_succ, Option.some.injEq] at hjq
      subst hjq
      intro B a w hB hb hk
      obtain ⟨b0, hb0⟩ := hB
      have e10 : a.eval (.tmp 10) = .pointer (some ⟨R, 0, none⟩) := hk b0 hb0 10 (by decide)
      refine ⟨rfl, opwp_nc rfl e10 ?_⟩
      exact ⟨Below.refl _ _, _, rfl, fun d hd b _ _ => by cases hd; rfl⟩
    | 2, hjq, _, _ =>
      simp only [List.getElem?_toArray, List.getElem?_cons_zero, List.getElem?_cons_succ, Option.some.injEq] at hjq
      subst hjq
      intro B a w hB hb hk
      obtain ⟨b0, hb0⟩ := hB
      have e11 : a.eval (.tmp 11) = .pointer (some ⟨R, 0, none⟩) := hk b0 hb0 11 (by decide)
      refine ⟨rfl, opwp_faQ0 rfl e11 ?_⟩
      exact ⟨Below.refl _ _, _, rfl, fun d hd b _ _ => by cases hd; rfl⟩
    | 3, hjq, _, _ =>
      simp only [List.getElem?_toArray, List.getElem?_cons_zero, List.getElem?_cons_succ, Option.some.injEq] at hjq
      subst hjq
      intro B a w hB hb hk
      obtain ⟨b0, hb0⟩ := hB
      have e12 : a.eval (.tmp 12) = .pointer (some ⟨R, 0, none⟩) := hk b0 hb0 12 (by decide)
      refine ⟨rfl, opwp_ldS rfl e12 ((hb.cell (p := ⟨R, 0, none⟩) hR).trans c0) ?_⟩
      exact ⟨Below.refl _ _, _, rfl, fun d hd b _ _ => by cases hd; rfl⟩
    | 4, hjq, _, _ =>
      simp only [List.getElem?_toArray, List.getElem?_cons_zero, List.getElem?_cons_succ, Option.some.injEq] at hjq
      subst hjq
      intro B a w hB hb hk
      obtain ⟨b0, hb0⟩ := hB
      have e0 : a.eval (.tmp 0) = .pointer (some ⟨R, 0, none⟩) := hk b0 hb0 0 (by decide)
      refine ⟨rfl, opwp_move rfl e0 ?_⟩
      exact ⟨Below.refl _ _, _, rfl, fun d hd b _ _ => by cases hd; rfl⟩
    | 5, hjq, _, _ =>
      simp only [List.getElem?_toArray, List.getElem?_cons_zero, List.getElem?_cons_succ, Option.some.injEq] at hjq
      subst hjq
      intro B a w hB hb hk
      obtain ⟨b0, hb0⟩ := hB
      have e14 : a.eval (.tmp 14) = .pointer (some ⟨R, 0, none⟩) := hk b0 hb0 14 (by decide)
      refine ⟨rfl, opwp_nc rfl e14 ?_⟩
      exact ⟨Below.refl _ _, _, rfl, fun d hd b _ _ => by cases hd; rfl⟩
    | 6, hjq, _, _ =>
      simp only [List.getElem?_toArray, List.getElem?_cons_zero, List.getElem?_cons_succ, Option.some.injEq] at hjq
      subst hjq
      intro B a w hB hb hk
      obtain ⟨b0, hb0⟩ := hB
      have e15 : a.eval (.tmp 15) = .pointer (some ⟨R, 0, none⟩) := hk b0 hb0 15 (by decide)
      refine ⟨rfl, opwp_faQ1 rfl e15 ?_⟩
      exact ⟨Below.refl _ _, _, rfl, fun d hd b _ _ => by cases hd; rfl⟩
    | 7, hjq, _, _ =>
      simp only [List.getElem?_toArray, List.getElem?_cons_zero, List.getElem?_cons_succ, Option.some.injEq] at hjq
      subst hjq
      intro B a w hB hb hk
      obtain ⟨b0, hb0⟩ := hB
      have e16 : a.eval (.tmp 16) = .pointer (some ⟨R, 1, none⟩) := hk b0 hb0 16 (by decide)
      refine ⟨rfl, opwp_faJ2 rfl e16 ?_⟩
      exact ⟨Below.refl _ _, _, rfl, fun d hd b _ _ => by cases hd; rfl⟩
    | 8, hjq, _, _ =>
      simp only [List.getElem?_toArray, List.getElem?_cons_zero, List.getElem?_cons_succ, Option.some.injEq] at hjq
      subst hjq
      intro B a w hB hb hk
      obtain ⟨b0, hb0⟩ := hB
      have e17 : a.eval (.tmp 17) = .pointer (some ⟨R, 3, none⟩) := hk b0 hb0 17 (by decide)
      refine ⟨rfl, opwp_ldI rfl e17 ((hb.cell (p := ⟨R, 3, none⟩) hR).trans c3) ?_⟩
      exact ⟨Below.refl _ _, _, rfl, fun d hd b _ _ => by cases hd; rfl⟩
    | 9, hjq, _, _ =>
      simp only [List.getElem?_toArray, List.getElem?_cons_zero, List.getElem?_cons_succ, Option.some.injEq] at hjq
      subst hjq
      intro B a w hB hb hk
      obtain ⟨b0, hb0⟩ := hB
      have e13 : a.eval (.tmp 13) = .string ⟨s.toArray⟩ := hk b0 hb0 13 (by decide)
      have e18 : a.eval (.tmp 18) = .int .i64 tk.to_ := hk b0 hb0 18 (by decide)
      refine ⟨rfl, opwp_call (fun v w' => v = .tuple #[.agg #[.int .i64 kd, .int .i64 fr, .int .i64 to1, .int .i64 n1, .int .u64 u1, .string ⟨tx.toArray⟩], .int .i64 er] ∧ Below w.heap.size w w') (exec_call [a.eval (.tmp 13), a.eval (.tmp 18)] Tryz.func57 (by kernel_rfl) rfl rfl rfl) ?_ ?_⟩
      · rw [e13, e18]
        refine (HL.out w).mono ?_
        rintro e w' ⟨rfl, h⟩
        exact ⟨_, rfl, rfl, h⟩
      · rintro v w' ⟨rfl, h⟩
        exact ⟨h, _, rfl, fun d hd b _ _ => by cases hd; rfl⟩
    | 10, hjq, _, _ =>
      simp only [List.getElem?_toArray, List.getElem?_cons_zero, List.getElem?_cons_succ, Option.some.injEq] at hjq
      subst hjq
      intro B a w hB hb hk
      obtain ⟨b0, hb0⟩ := hB
      have e19 : a.eval (.tmp 19) = .tuple #[.agg #[.int .i64 kd, .int .i64 fr, .int .i64 to1, .int .i64 n1, .int .u64 u1, .string ⟨tx.toArray⟩], .int .i64 er] := hk b0 hb0 19 (by decide)
      refine ⟨rfl, opwp_move rfl e19 ?_⟩
      exact ⟨Below.refl _ _, _, rfl, fun d hd b _ _ => by cases hd; rfl⟩
    | 11, hjq, _, _ =>
      simp only [List.getElem?_toArray, List.getElem?_cons_zero, List.getElem?_cons_succ, Option.some.injEq] at hjq
      subst hjq
      intro B a w hB hb hk
      obtain ⟨b0, hb0⟩ := hB
      have e9 : a.eval (.tmp 9) = .tuple #[.agg #[.int .i64 kd, .int .i64 fr, .int .i64 to1, .int .i64 n1, .int .u64 u1, .string ⟨tx.toArray⟩], .int .i64 er] := hk b0 hb0 9 (by decide)
      refine ⟨rfl, opwp_ext (.agg #[.int .i64 kd, .int .i64 fr, .int .i64 to1, .int .i64 n1, .int .u64 u1, .string ⟨tx.toArray⟩]) rfl e9 rfl ?_⟩
      exact ⟨Below.refl _ _, _, rfl, fun d hd b _ _ => by cases hd; rfl⟩
    | 12, hjq, _, _ =>
      simp only [List.getElem?_toArray, List.getElem?_cons_zero, List.getElem?_cons_succ, Option.some.injEq] at hjq
      subst hjq
      intro B a w hB hb hk
      obtain ⟨b0, hb0⟩ := hB
      have e9 : a.eval (.tmp 9) = .tuple #[.agg #[.int .i64 kd, .int .i64 fr, .int .i64 to1, .int .i64 n1, .int .u64 u1, .string ⟨tx.toArray⟩], .int .i64 er] := hk b0 hb0 9 (by decide)
      refine ⟨rfl, opwp_ext (.int .i64 er) rfl e9 rfl ?_⟩
      exact ⟨Below.refl _ _, _, rfl, fun d hd b _ _ => by cases hd; rfl⟩
    | 13, hjq, h, _ => exact absurd rfl h
    | 14, hjq, _, h => exact absurd (by decide) h
    | 15, hjq, _, _ =>
      simp only [List.getElem?_toArray, List.getElem?_cons_zero, List.getElem?_cons_succ, Option.some.injEq] at hjq
      subst hjq
      intro B a w hB hb hk
      obtain ⟨b0, hb0⟩ := hB
      have e21 : a.eval (.tmp 21) = .int .i64 er := hk b0 hb0 21 (by decide)
      refine ⟨rfl, opwp_assign rfl e21 ?_⟩
      exact ⟨Below.refl _ _, _, rfl, fun d hd b _ _ => by cases hd; rfl⟩
    | kq + 16, hjq, _, _ => cases hjq
  intro P2 f w1 hb hp1 hp2 hp hblk
  have e2 : f 2 = .pointer (some ⟨P2, 0, none⟩) := hp 2 (by decide)
  have e3 : f 3 = .int .i64 er := hp 3 (by decide)
  simp only [puts, List.foldl, Act.put, List.setIfInBounds_toArray, List.set_cons_zero, List.set_cons_succ]
  simp only [e2, e3]
  generalize f 10 = v10
  generalize f 11 = v11
  generalize f 12 = v12
  generalize f 13 = v13
  generalize f 14 = v14
  generalize f 15 = v15
  generalize f 16 = v16
  generalize f 17 = v17
  generalize f 18 = v18
  generalize f 19 = v19
  generalize f 9 = v9
  generalize f 20 = v20
  generalize f 21 = v21
  have hblk2 : w1.heap[P2]? = some (.cells #[.int .i64 kd, .int .i64 fr, .int .i64 to1, .int .i64 n1, .int .u64 u1, .string ⟨tx.toArray⟩] 64 (0, 0)) := hblk
  have hP1 : RRow w1 R s tk many 0 0 := HP.out.same (hb.block _ hR)
  obtain ⟨d0, d1, d2, d3, d4, d5, d6, d7, d8, d9, df⟩ := hP1.cells
  have y0 : w1.cell? ⟨P2, 0, none⟩ = some (.int .i64 kd) := cell_of_row _ _ _ _ _ _ hblk2
  have y1 : w1.cell? ⟨P2, 1, none⟩ = some (.int .i64 fr) := cell_of_row _ _ _ _ _ _ hblk2
  have y2 : w1.cell? ⟨P2, 2, none⟩ = some (.int .i64 to1) := cell_of_row _ _ _ _ _ _ hblk2
  have y3 : w1.cell? ⟨P2, 3, none⟩ = some (.int .i64 n1) := cell_of_row _ _ _ _ _ _ hblk2
  have y4 : w1.cell? ⟨P2, 4, none⟩ = some (.int .u64 u1) := cell_of_row _ _ _ _ _ _ hblk2
  have y5 : w1.cell? ⟨P2, 5, none⟩ = some (.string ⟨tx.toArray⟩) := cell_of_row _ _ _ _ _ _ hblk2
  have f1 := df 1
  have f2 := df 2
  have f3 := df 3
  have f4 := df 4
  have f5 := df 5
  have f6 := df 6
  have HB := Lib.hid hb
  have HP1 := Lib.hid hP1
  clear hp e2 e3 hblk hblk2 hb hP1 df HP HL c0 c3 d0 d7 d8 d9 c9
  by_cases her : er = 0
  · have ez : (er != 0) = false := by simp [her]
    have HRR := Lib.hid (show res = .ok ⟨kd, fr, to1, n1, u1, tx⟩ by rw [← HR.out, if_neg (by simp [her])])
    clear her HFL
    go_wp2
    go_end0
    rw [HRR.out]
    exact ⟨rfl, ⟨set6_r HP1.out.1 _ _ _ _ _ _, by show tx.length ≤ 4294967296; omega, hkb.1, hkb.2⟩, (Touch.quiet HB.out).trans (touch6p _ _ _ _ _ _)⟩
  · have ez : (er != 0) = true := by simp [her]
    have HRR := Lib.hid (show res = .error (fr, er) by rw [← HR.out, if_pos her])
    have HF2 := Lib.hid (HFL.out w1 fr er her HP1.out)
    clear her HFL d1 d2 d3 d4 d5 d6
    go_wp2_with fail
    refine HF2.out.mono ?_
    rintro o w2 ⟨rfl, hs, ht⟩
    have HS2 := Lib.hid hs
    have HT2 := Lib.hid ht
    clear hs ht HF2
    go_wp2_with fail
    go_returns
    rw [HRR.out]
    exact ⟨rfl, HS2.out, (Touch.quiet HB.out).trans HT2.out⟩
theorem rnextr_any (s : List UInt8) (x : PE Tok) (m : Int) (R : Nat) (w : World) (h : RSt w R s m x) (hl : s.length ≤ 1073741824) :
    Calls Tryz.prog 29 #[.pointer (some ⟨R, 0, none⟩)] w fun o w' => o = .returned (.tuple #[]) ∧ RSt w' R s m (nextS s x) ∧ Touch [R] w w' := by
  cases x with
  | ok t => exact rnextr_ok s t m R w h hl
  | error y =>
    obtain ⟨h0, t, h1⟩ := h
    obtain ⟨-, -, -, -, -, -, -, -, c8, c9, cf⟩ := h1.cells
    have ez : (y.2 != 0) = true := by simp [h0]
    have HP := Lib.hid h1
    have H0 := Lib.hid h0
    clear h1 cf h0
    obtain ⟨y1, y2⟩ := y
    dsimp only at ez c8 c9
    go_enter Tryz.func29, Tryz.ntmps29
    go_wp2
    go_returns
    exact ⟨rfl, ⟨H0.out, t, HP.out⟩, Touch.refl _ _⟩
/-- The reference's must. -/
theorem rmust_any (s : List UInt8) (x : PE Tok) (m : Int) (R : Nat) (k : Int) (w : World) (h : RSt w R s m x) (hl : s.length ≤ 1073741824) :
    Calls Tryz.prog 99 #[.pointer (some ⟨R, 0, none⟩), .int .i64 k] w fun o w' => o = .returned (.tuple #[]) ∧ RSt w' R s m (mustS s x k) ∧ Touch [R] w w' := by
  have HI := Lib.hid (risr_any s x m R k w h)
  obtain ⟨t, a, e, hrow⟩ := h.row
  obtain ⟨-, -, c2, -⟩ := hrow.cells
  have hR := h.lt
  have HFL := Lib.hid fun (e : Int) (he : e ≠ 0) => rfail_any s x m R t.from_ e he w h
  have HN := Lib.hid (rnextr_any s x m R w h hl)
  have HEQ : Hid (isP x k = true → mustS s x k = nextS s x) := Lib.hid (by
    intro hi
    cases x with
    | ok t => exact if_pos (by simpa [isP] using hi)
    | error y => rfl)
  have HEN : Hid (isP x k = false → mustS s x k = failP x t.from_ 100) := Lib.hid (by
    intro hi
    cases x with
    | ok u =>
      have hu : u = t ∨ u.from_ = t.from_ := by
        have h1 : RRow w R s u m 0 0 := h
        have c := h1.cells.2.2.1
        rw [hrow.cells.2.2.1] at c
        injection c with c
        injection c with _ c
        exact .inr c.symm
      have hf : u.from_ = t.from_ := by rcases hu with rfl | hu; rfl; exact hu
      show (if u.kind = k then nextP s u else .error (u.from_, 100)) = .error (t.from_, 100)
      rw [if_neg (by simpa [isP] using hi), hf]
    | error y => rfl)
  generalize isP x k = b at *
  clear h hrow
  cases b
  · have HF2 := Lib.hid (HFL.out 100 (by decide))
    have HE2 := Lib.hid (HEN.out rfl)
    clear HFL HN HEQ HEN
    go_enter Tryz.func99, Tryz.ntmps99
    go_wp2_with fail
    refine HI.out.mono ?_
    rintro o w1 ⟨rfl, rfl⟩
    go_wp2_with fail
    refine HF2.out.mono ?_
    rintro o w2 ⟨rfl, hs, ht⟩
    have HS2 := Lib.hid hs
    have HT2 := Lib.hid ht
    clear hs ht HF2
    go_wp2_with fail
    go_returns
    rw [HE2.out]
    exact ⟨rfl, HS2.out, HT2.out⟩
  · have HE2 := Lib.hid (HEQ.out rfl)
    clear HFL HEQ HEN
    go_enter Tryz.func99, Tryz.ntmps99
    go_wp2_with fail
    refine HI.out.mono ?_
    rintro o w1 ⟨rfl, rfl⟩
    go_wp2_with fail
    refine HN.out.mono ?_
    rintro o w2 ⟨rfl, hs, ht⟩
    have HS2 := Lib.hid hs
    have HT2 := Lib.hid ht
    clear hs ht HN
    go_wp2_with fail
    go_end0
    rw [HE2.out]
    exact ⟨rfl, HS2.out, HT2.out⟩
end
section
open Go.RowKit Go.Shelf
theorem str_idx (l : List UInt8) (k : Nat) (h : k < l.length) (W : World) : (Instr.index 9 (.string ⟨l.toArray⟩) (.int .i64 (k : Int))).run Tryz.prog W = .ok (.int .u8 ((l.getD k 0).toNat : Int)) W := by
  rw [run_index_string (P := Tryz.prog) (w := W) (t := 9) (s := ⟨l.toArray⟩) (k := .i64) (i := (k : Int)) (h := Tryz.underlying9)]
  have hs : (ByteArray.mk l.toArray).size = l.length := by simp [ByteArray.size]
  have hk : (0 : Int) ≤ (k : Int) ∧ (k : Int) < ((ByteArray.mk l.toArray).size : Int) := by rw [hs]; omega
  rw [dif_pos hk]
  simp only [Int.toNat_natCast]
  rw [List.getD_eq_getElem?_getD, List.getElem?_eq_getElem h]
  rfl
set_option maxHeartbeats 8000000 in
set_option maxRecDepth 100000 in
theorem rzero_any (l : List UInt8) (w : World) (hl : l.length ≤ 4294967296) : Calls Tryz.prog 122 #[strV l] w fun e w' => e = .returned (.bool (decide ((0 : UInt8) ∈ l))) ∧ w' = w := by
  have hs : (⟨l.toArray⟩ : ByteArray).size = l.length := by simp [ByteArray.size]
  have HX := Lib.hid (str_idx l)
  have HT := Lib.hid (fun (k : Nat) (hk : k < l.length) (h : l.getD k 0 = 0) => show (0 : UInt8) ∈ l by
    rw [List.getD_eq_getElem?_getD, List.getElem?_eq_getElem hk] at h
    exact h ▸ List.getElem_mem hk)
  have HF := Lib.hid (fun (h : ∀ j, j < l.length → l.getD j 0 ≠ 0) => show ¬ (0 : UInt8) ∈ l by
    intro hm
    obtain ⟨j, hj, e⟩ := List.getElem_of_mem hm
    refine h j hj ?_
    rw [List.getD_eq_getElem?_getD, List.getElem?_eq_getElem hj]
    exact e)
  obtain ⟨r, hr⟩ : ∃ r, r = decide ((0 : UInt8) ∈ l) := ⟨_, rfl⟩
  rw [← hr]
  have HR := Lib.hid hr
  obtain ⟨n, hn⟩ : ∃ n, n = l.length := ⟨_, rfl⟩
  have HN := Lib.hid hn
  rw [← hn] at hl hs
  clear hn hr
  unfold strV
  go_enter Tryz.func122, Tryz.ntmps122
  go_wp2_with fail
  go_loopw [3] (fun v wr => ∃ k : Nat, k ≤ n ∧ v = .int .i64 k ∧ Hid (∀ j, j < k → l.getD j 0 ≠ 0) ∧ wr = w) (fun v _ => n - (intOf v).toNat)
  case atStart => exact ⟨0, by omega, rfl, Lib.hid (fun j a => by omega), rfl⟩
  case round =>
    rename_i wr
    obtain ⟨k, hkn, rfl, hG, rfl⟩ := hrel
    by_cases h1 : k < n
    · have h1' : (k : Int) < (n : Int) := by omega
      have hx := HX.out k (by have := HN.out; omega)
      by_cases h0 : l.getD k 0 = 0
      · have m0 : ((l.getD k 0).toNat : Int) = 0 := by rw [h0]; rfl
        rw [m0] at hx
        have HFIN := Lib.hid (show r = true by rw [HR.out]; exact decide_eq_true (HT.out k (by have := HN.out; omega) h0))
        clear m0 h0
        go_wp2_with fail
        go_ret
        exact ⟨by rw [HFIN.out]; rfl, rfl⟩
      · have HG2 := Lib.hid (show ∀ j, j < k + 1 → l.getD j 0 ≠ 0 from fun j a => by
          by_cases e : j = k
          · rw [e]; exact h0
          · exact hG.out j (by omega))
        have m0 : (((l.getD k 0).toNat : Int) == 0) = false := by
          rw [beq_eq_false_iff_ne]
          intro e
          refine h0 ?_
          have e2 : (l.getD k 0).toNat = 0 := by omega
          exact UInt8.toNat_inj.1 e2
        generalize l.getD k 0 = c at *
        clear h0
        go_wp2_with fail
        go_roundw
        case rel => exact ⟨k + 1, by omega, by go_num, HG2, trivial⟩
        case measure => simp only [intOf]; omega
    · have h1' : ¬ (k : Int) < (n : Int) := by omega
      have HFIN := Lib.hid (show r = false by
        rw [HR.out]
        exact decide_eq_false (HF.out fun j hj => hG.out j (by have := HN.out; omega)))
      go_wp2_with fail
      go_ret
      exact ⟨by rw [HFIN.out]; rfl, rfl⟩
theorem rkey_any (l : List UInt8) (w : World) (hl : l.length ≤ 4294967296) : Calls Tryz.prog 100 #[strV l] w fun e w' => e = .returned (.int .i64 (if (0 : UInt8) ∈ l then 70 else 0)) ∧ w = w' := by
  have HZ := Lib.hid (rzero_any l w hl)
  unfold strV at HZ ⊢
  by_cases h : (0 : UInt8) ∈ l
  · rw [if_pos h]
    rw [decide_eq_true h] at HZ
    clear h
    go_enter Tryz.func100, Tryz.ntmps100
    go_wp2_with fail
    refine HZ.out.mono ?_
    rintro o w1 ⟨rfl, rfl⟩
    go_wp2_with fail
    go_ret
    exact ⟨rfl, rfl⟩
  · rw [if_neg h]
    rw [decide_eq_false h] at HZ
    clear h
    go_enter Tryz.func100, Tryz.ntmps100
    go_wp2_with fail
    refine HZ.out.mono ?_
    rintro o w1 ⟨rfl, rfl⟩
    go_wp2_with fail
    go_ret
    exact ⟨rfl, rfl⟩
/-- A list has no keys. -/
theorem each_nokey (s : List UInt8) : ∀ (g : Nat) (deep : Int) (t : Tok) (many : Int) (acc : List DT) (ks1 : List (List UInt8)) (l1 : List DT) (t1 : Tok) (m : Int), eachP s g false deep t many [] acc = .ok (ks1, l1, t1, m) → ks1 = []
  | 0, deep, t, many, acc, ks1, l1, t1, m, h => by simp [eachP] at h
  | g + 1, deep, t, many, acc, ks1, l1, t1, m, h => by
    rw [eachP] at h
    have hs : ∀ (a : List DT) (u : Tok) (n : Int), shutP s [] a u n = .ok (ks1, l1, t1, m) → ks1 = [] := by
      intro a u n hh
      unfold shutP at hh
      split at hh
      · cases hh
      · cases hh; rfl
    split at h
    · exact hs _ _ _ h
    simp only [headP, if_pos] at h
    split at h
    · cases h
    rename_i T t2 m2 hv
    split at h
    · exact hs _ _ _ h
    split at h
    · cases h
    split at h
    · cases h
    split at h
    · cases h
    · exact each_nokey s g _ _ _ _ _ _ _ _ h
/-- One element of the reference's loop. -/
theorem many_go {s : List UInt8} {g : Nat} {mp : Bool} {dp m : Int} {t t1 : Tok} {ks ks1 : List (List UInt8)} {L : List DT} {res : ER} (h : eachP s (g + 1) mp dp t m ks L = res) (hk : t.kind ≠ lastP mp) (hh : headP s mp ks t = .ok (ks1, t1)) :
    match valP s g dp t1 m with
    | .error y => res = .error y
    | .ok (T, t2, m1) => (t2.kind = 5 → match nextP s t2 with
        | .error y => res = .error y
        | .ok t3 => (if t3.kind = lastP mp then (.error (t3.from_, 100) : ER) else eachP s g mp dp t3 m1 ks1 (L ++ [T])) = res) ∧
      (t2.kind ≠ 5 → match mustS s (.ok t2) (lastP mp) with
        | .error y => res = .error y
        | .ok t3 => res = .ok (ks1, L ++ [T], t3, m1)) := by
  rw [eachP, if_neg hk, hh] at h
  dsimp only at h
  cases hv : valP s g dp t1 m with
  | error y => rw [hv] at h; exact h.symm
  | ok p =>
    obtain ⟨T, t2, m1⟩ := p
    rw [hv] at h
    dsimp only at h ⊢
    refine ⟨fun h5 => ?_, fun h5 => ?_⟩
    · have hl : ¬ t2.kind = lastP mp := by rw [h5]; cases mp <;> decide
      rw [if_neg hl, if_neg (show ¬ t2.kind ≠ 5 from fun h => h h5)] at h
      unfold nextP at h ⊢
      by_cases h0 : (nextM s t2.to_).2 ≠ 0
      · rw [if_neg (fun h => h0 h.1), if_pos h0] at h
        rw [if_pos h0]
        exact h.symm
      · rw [if_neg h0]
        rw [if_neg h0] at h
        dsimp only at h ⊢
        by_cases hk3 : (nextM s t2.to_).1.kind = lastP mp
        · rw [if_pos ⟨Classical.not_not.1 h0, hk3⟩] at h
          rw [if_pos hk3]
          exact h
        · rw [if_neg (fun h => hk3 h.2)] at h
          rw [if_neg hk3]
          exact h
    · unfold mustS
      dsimp only
      by_cases hl : t2.kind = lastP mp
      · rw [if_pos hl] at h
        rw [if_pos hl]
        unfold shutP at h
        cases hn : nextP s t2 with
        | error y => rw [hn] at h; exact h.symm
        | ok t3 => rw [hn] at h; exact h.symm
      · rw [if_neg hl, if_pos h5] at h
        rw [if_neg hl]
        exact h.symm
theorem val_shut {s : List UInt8} {g : Nat} {dp m : Int} {t : Tok} (h : t.kind = 4) (hg : 0 < g) : valP s g dp t m = .error (t.from_, 100) := by
  obtain ⟨g, rfl⟩ : ∃ k, g = k + 1 := ⟨g - 1, by omega⟩
  rw [valP, if_pos (by rw [h]; rfl)]
/-- What the reference's value leaves. -/
def RValPost (w : World) (R : Nat) (s : List UInt8) (r : VR) (o : Ending) (w' : World) : Prop :=
  Touch [R] w w' ∧ ∃ T v, o = .returned v ∧ Fresh w.heap.size w' T v ∧ match r with
  | .ok (T', t1, m) => T = T' ∧ RSt w' R s m (.ok t1)
  | .error y => ∃ m, RSt w' R s m (.error y)
def RValC (s : List UInt8) (g : Nat) : Prop := ∀ (deep : Int) (t : Tok) (many : Int) (R : Nat) (w : World), RSt w R s many (.ok t) → 0 ≤ many → many ≤ 4096 → 2 * (4096 - many) + 1 ≤ g → 0 ≤ deep → deep ≤ 64 →
  Calls Tryz.prog 30 #[.pointer (some ⟨R, 0, none⟩), .int .i64 deep] w (RValPost w R s (valP s g deep t many))
/-- What the reference's list leaves. -/
def RListPost (w : World) (R : Nat) (s : List UInt8) (r : ER) (o : Ending) (w' : World) : Prop :=
  Touch [R] w w' ∧ ∃ L v xs bl, o = .returned v ∧ Kids w' w.heap.size [] L (.slice none 0 0) v xs bl ∧ match r with
  | .ok (_, l, t1, m) => L = l ∧ RSt w' R s m (.ok t1)
  | .error y => ∃ m, RSt w' R s m (.error y)
def allR (s : List UInt8) (g : Nat) (mp : Bool) (dp : Int) (many : Int) (x : PE Tok) : ER := match x with
  | .ok t => eachP s g mp (dp + 1) t many [] []
  | .error y => .error y
def RListC (s : List UInt8) (g : Nat) : Prop := ∀ (dp : Int) (x : PE Tok) (many : Int) (R : Nat) (w : World), RSt w R s many x → 0 ≤ many → many ≤ 4096 → 2 * (4096 - many) + 2 ≤ g → 0 ≤ dp → dp ≤ 63 →
  Calls Tryz.prog 58 #[.pointer (some ⟨R, 0, none⟩), .int .i64 dp] w (RListPost w R s (allR s g false dp many x))
/-- What the reference's members leaves. -/
def RMembPost (w : World) (R : Nat) (s : List UInt8) (r : ER) (o : Ending) (w' : World) : Prop :=
  Touch [R] w w' ∧ ∃ ks L v, o = .returned v ∧ Fresh w.heap.size w' (.mk 17 0 0 [] ks L) v ∧ match r with
  | .ok (ks', l, t1, m) => ks = ks' ∧ L = l ∧ RSt w' R s m (.ok t1)
  | .error y => ∃ m, RSt w' R s m (.error y)
def RMembC (s : List UInt8) (g : Nat) : Prop := ∀ (dp : Int) (x : PE Tok) (many : Int) (R : Nat) (w : World), RSt w R s many x → 0 ≤ many → many ≤ 4096 → 2 * (4096 - many) + 2 ≤ g → 0 ≤ dp → dp ≤ 63 →
  Calls Tryz.prog 59 #[.pointer (some ⟨R, 0, none⟩), .int .i64 dp] w (RMembPost w R s (allR s g true dp many x))
theorem rleaf_fresh (B : Nat) (w : World) (kd n u : Int) (x : List UInt8) : Fresh B w (.mk kd n u x [] []) (.agg #[.int .i64 kd, .int .i64 n, .int .u64 u, strV x, .slice none 0 0, .slice none 0 0]) := by
  refine ⟨_, _, _, _, _, _, [], rfl, ?_, by simp, by simp⟩
  rw [NRep]
  exact ⟨.slice none 0 0, .slice none 0 0, [], [], rfl, World.ownsRow_nil _ _ _ _, World.ownsRow_nil _ _ _ _, by rw [NReps]; exact ⟨rfl, rfl⟩, by simp [blkL, Value.ownBlock]⟩
/-- What value checks ahead of the token. -/
def preP (deep : Int) (t : Tok) (many : Int) : PE Tok :=
  if bgB t.kind = false then .error (t.from_, 100) else if 4096 ≤ many then .error (t.from_, 5) else if 64 ≤ deep then .error (t.from_, 61) else .ok t
theorem valP_bad {s : List UInt8} {g : Nat} {deep many : Int} {t : Tok} {y : Int × Int} (h : preP deep t many = .error y) : valP s (g + 1) deep t many = .error y := by
  unfold preP at h
  rw [valP]
  split at h
  · rename_i h1; rw [if_pos h1]; cases h; rfl
  rename_i h1
  rw [if_neg h1]
  split at h
  · rename_i h2; rw [if_pos h2]; cases h; rfl
  rename_i h2
  rw [if_neg h2]
  split at h
  · rename_i h3; rw [if_pos h3]; cases h; rfl
  · cases h
theorem valP_good {s : List UInt8} {g : Nat} {deep many : Int} {t : Tok} (h1 : bgB t.kind = true) (h2 : ¬ 4096 ≤ many) (h3 : ¬ 64 ≤ deep) : valP s (g + 1) deep t many =
    (if t.kind = 3 ∨ t.kind = 1 then match allR s g (decide (t.kind = 1)) deep (many + 1) (nextP s t) with
      | .error x => .error x
      | .ok (ks, l, t2, m) => .ok (.mk (if t.kind = 1 then 17 else 10) 0 0 [] ks l, t2, m)
    else match nextP s t with
      | .error x => .error x
      | .ok t1 => .ok (leafP t, t1, many + 1)) := by
  rw [valP, if_neg (by simp [h1]), if_neg h2, if_neg h3]
  generalize nextP s t = q
  cases q with
  | error x => dsimp only [allR]; split <;> rfl
  | ok t1 => dsimp only [allR]; split <;> rfl
/-- The value's walk on the way: the reader, the node for the result in block Z. -/
structure VB (w : World) (R : Nat) (s : List UInt8) (m : Int) (x : PE Tok) (W : World) : Prop where
  s : RSt W R s m x
  t : Touch [R] w W
  z : W.heap[w.heap.size]? = some (.cells zC.toArray 27 (0, 0))
  l : R < w.heap.size
theorem VB.step {w : World} {R : Nat} {s : List UInt8} {m m' : Int} {x x' : PE Tok} {W W' : World} (h : VB w R s m x W) (hs : RSt W' R s m' x') (ht : Touch [R] W W') : VB w R s m' x' W' :=
  ⟨hs, h.t.trans ht, (ht.block _ (Array.getElem?_eq_some_iff.1 h.z).1 (by have := h.l; simp; omega)).trans h.z, h.l⟩
/-- The node for the result, written. -/
theorem VB.fin {w : World} {R : Nat} {s : List UInt8} {m : Int} {x : PE Tok} {W : World} (h : VB w R s m x W) (v0 v1 v2 v3 v4 v5 : Value) :
    (∀ i, i ≠ w.heap.size → ((((((W.setCell ⟨w.heap.size, 0, none⟩ v0).setCell ⟨w.heap.size, 1, none⟩ v1).setCell ⟨w.heap.size, 2, none⟩ v2).setCell ⟨w.heap.size, 3, none⟩ v3).setCell ⟨w.heap.size, 4, none⟩ v4).setCell ⟨w.heap.size, 5, none⟩ v5).heap[i]? = W.heap[i]?) ∧
    Touch [R] w ((((((W.setCell ⟨w.heap.size, 0, none⟩ v0).setCell ⟨w.heap.size, 1, none⟩ v1).setCell ⟨w.heap.size, 2, none⟩ v2).setCell ⟨w.heap.size, 3, none⟩ v3).setCell ⟨w.heap.size, 4, none⟩ v4).setCell ⟨w.heap.size, 5, none⟩ v5) ∧
    RSt ((((((W.setCell ⟨w.heap.size, 0, none⟩ v0).setCell ⟨w.heap.size, 1, none⟩ v1).setCell ⟨w.heap.size, 2, none⟩ v2).setCell ⟨w.heap.size, 3, none⟩ v3).setCell ⟨w.heap.size, 4, none⟩ v4).setCell ⟨w.heap.size, 5, none⟩ v5) R s m x := by
  have hoth : ∀ i, i ≠ w.heap.size → ((((((W.setCell ⟨w.heap.size, 0, none⟩ v0).setCell ⟨w.heap.size, 1, none⟩ v1).setCell ⟨w.heap.size, 2, none⟩ v2).setCell ⟨w.heap.size, 3, none⟩ v3).setCell ⟨w.heap.size, 4, none⟩ v4).setCell ⟨w.heap.size, 5, none⟩ v5).heap[i]? = W.heap[i]? := by
    intro i hne
    rw [heap_setCell_other _ _ _ _ hne, heap_setCell_other _ _ _ _ hne, heap_setCell_other _ _ _ _ hne, heap_setCell_other _ _ _ _ hne, heap_setCell_other _ _ _ _ hne, heap_setCell_other _ _ _ _ hne]
  exact ⟨hoth, six_over h.t (Nat.le_refl _) _ _ _ _ _ _, h.s.same (hoth R (by have := h.l; omega))⟩
theorem fresh_over {B : Nat} {w w' : World} {T : DT} {v : Value} (h : Fresh B w T v) {Z : Nat} (hZ : Z < B) (ho : ∀ i, i ≠ Z → w'.heap[i]? = w.heap[i]?) {B' : Nat} (hB : B' ≤ B) : Fresh B' w' T v := by
  obtain ⟨x0, x1, x2, x3, x4, x5, bs, e, hn, hnd, hge⟩ := h
  exact ⟨x0, x1, x2, x3, x4, x5, bs, e, NRep.same _ _ _ hn fun i hi => ho i (by have := hge i hi; omega), hnd, fun i hi => Nat.le_trans hB (hge i hi)⟩
set_option maxHeartbeats 16000000 in
set_option maxRecDepth 100000 in
theorem rvalue_bad (s : List UInt8) (g : Nat) (deep : Int) (t : Tok) (many : Int) (R : Nat) (w : World) (h : RSt w R s many (.ok t)) (hbad : bgB t.kind = false ∨ 4096 ≤ many ∨ 64 ≤ deep) :
    Calls Tryz.prog 30 #[.pointer (some ⟨R, 0, none⟩), .int .i64 deep] w (RValPost w R s (valP s (g + 1) deep t many)) := by
  have hR := h.lt
  have hn0 := heap_alloc_new w (.cells zC.toArray 27)
  have HV0 := Lib.hid (show VB w R s many (.ok t) (w.alloc (.cells zC.toArray 27)) from ⟨h.below zw, Touch.quiet zw, hn0, hR⟩)
  have hr : RRow w R s t many 0 0 := h
  obtain ⟨-, c1, -⟩ := hr.cells
  have c1n := ((Below.alloc (Below.refl w.heap.size w) (Nat.le_refl _) (.cells #[.int .i64 0, .int .i64 0, .int .u64 0, .string ⟨#[]⟩, .slice none 0 0, .slice none 0 0] 27)).cell (p := ⟨R, 1, none⟩) hR).trans c1
  have hkb := hr.2.2
  clear h hn0 hr c1
  have HBAD := Lib.hid hbad
  clear hbad
  go_enter Tryz.func30, Tryz.ntmps30
  go_upto_region 2 with fail
  refine wp_named (fun wn => VB w R s many (.ok t) wn) HV0.out ?_
  clear HV0 c1n
  rintro wn hvb
  have HVB := Lib.hid hvb
  have hr : RRow wn R s t many 0 0 := hvb.s
  clear hvb
  obtain ⟨-, -, c2, -, -, -, -, c7, -, c9, -⟩ := hr.cells
  clear hr
  by_cases hK : bgB t.kind = false
  · have h7 : t.kind < 7 := by
      simp only [bgB, Bool.or_eq_false_iff, Bool.and_eq_false_iff, decide_eq_false_iff_not] at hK
      omega
    have e1 : (t.kind != 1) = true := by
      simp only [bgB, Bool.or_eq_false_iff, decide_eq_false_iff_not] at hK
      simp [hK.2]
    have e3 : (t.kind != 3) = true := by
      simp only [bgB, Bool.or_eq_false_iff, decide_eq_false_iff_not] at hK
      simp [hK.1.2]
    have HKB := Lib.hid hK
    clear hK HBAD
    by_cases hmb : 4096 ≤ many
    · by_cases hdb : 64 ≤ deep
      · go_wp2_with fail
        refine (rfail_any s (.ok t) many R t.from_ 100 (by decide) wn HVB.out.s).mono ?_
        rintro o w1 ⟨rfl, hs, ht⟩
        have hvb : VB w R s many (.error (t.from_, 100)) w1 := HVB.out.step hs ht
        obtain ⟨-, t1, hr⟩ := hs
        dsimp only at hr
        clear HVB ht c2 c7 c9
        have HVB := Lib.hid hvb
        clear hvb
        obtain ⟨-, -, c2, -, -, -, -, c7, -, c9, -⟩ := hr.cells
        clear hr
        go_wp2_with fail
        refine (rfail_any s (.error (t.from_, 100)) many R t1.from_ 5 (by decide) w1 HVB.out.s).mono ?_
        rintro o w2 ⟨rfl, hs, ht⟩
        have hvb : VB w R s many (.error (t.from_, 100)) w2 := HVB.out.step hs ht
        obtain ⟨-, t2, hr⟩ := hs
        dsimp only at hr
        clear HVB ht c2 c7 c9
        have HVB := Lib.hid hvb
        clear hvb
        obtain ⟨-, -, c2, -, -, -, -, c7, -, c9, -⟩ := hr.cells
        clear hr
        go_wp2_with fail
        refine (rfail_any s (.error (t.from_, 100)) many R t2.from_ 61 (by decide) w2 HVB.out.s).mono ?_
        rintro o w3 ⟨rfl, hs, ht⟩
        have hvb : VB w R s many (.error (t.from_, 100)) w3 := HVB.out.step hs ht
        obtain ⟨-, t3, hr⟩ := hs
        dsimp only at hr
        clear HVB ht c2 c7 c9
        have HVB := Lib.hid hvb
        clear hvb
        obtain ⟨-, -, c2, -, -, -, -, c7, -, c9, -⟩ := hr.cells
        clear hr
        obtain ⟨z0, z1, z2, z3, z4, z5⟩ := cells6 (show w3.heap[w.heap.size]? = some (.cells #[.int .i64 0, .int .i64 0, .int .u64 0, .string ⟨#[]⟩, .slice none 0 0, .slice none 0 0] 27 (0, 0)) from HVB.out.z)
        have fz : ∀ i, w3.frozen? ⟨w.heap.size, i, none⟩ = false := fun i => frozen_of_row _ _ _ _ _ HVB.out.z
        have fz0 := fz 0
        have fz1 := fz 1
        have fz2 := fz 2
        have fz3 := fz 3
        have fz4 := fz 4
        have fz5 := fz 5
        clear fz
        go_wp2_with fail
        (refine bodyPost_ret (v := .agg #[.int .i64 0, .int .i64 0, .int .u64 0, .string ⟨#[]⟩, .slice none 0 0, .slice none 0 0]) (by simp [results, Tryz.results30, go_sem, *]) rfl ?_)
        obtain ⟨q1, q2, q3⟩ := HVB.out.fin (.int .i64 0) (.int .i64 0) (.int .u64 0) (.string ⟨#[]⟩) (.slice none 0 0) (.slice none 0 0)
        rw [valP_bad (g := g) (show preP deep t many = .error (t.from_, 100) by unfold preP; rw [if_pos HKB.out])]
        exact ⟨q2, zeroD, _, rfl, ⟨_, _, _, _, _, _, [], rfl, zero_rep _, by simp, by simp⟩, many, q3⟩
      · go_wp2_with fail
        refine (rfail_any s (.ok t) many R t.from_ 100 (by decide) wn HVB.out.s).mono ?_
        rintro o w1 ⟨rfl, hs, ht⟩
        have hvb : VB w R s many (.error (t.from_, 100)) w1 := HVB.out.step hs ht
        obtain ⟨-, t1, hr⟩ := hs
        dsimp only at hr
        clear HVB ht c2 c7 c9
        have HVB := Lib.hid hvb
        clear hvb
        obtain ⟨-, -, c2, -, -, -, -, c7, -, c9, -⟩ := hr.cells
        clear hr
        go_wp2_with fail
        refine (rfail_any s (.error (t.from_, 100)) many R t1.from_ 5 (by decide) w1 HVB.out.s).mono ?_
        rintro o w2 ⟨rfl, hs, ht⟩
        have hvb : VB w R s many (.error (t.from_, 100)) w2 := HVB.out.step hs ht
        obtain ⟨-, t2, hr⟩ := hs
        dsimp only at hr
        clear HVB ht c2 c7 c9
        have HVB := Lib.hid hvb
        clear hvb
        obtain ⟨-, -, c2, -, -, -, -, c7, -, c9, -⟩ := hr.cells
        clear hr
        obtain ⟨z0, z1, z2, z3, z4, z5⟩ := cells6 (show w2.heap[w.heap.size]? = some (.cells #[.int .i64 0, .int .i64 0, .int .u64 0, .string ⟨#[]⟩, .slice none 0 0, .slice none 0 0] 27 (0, 0)) from HVB.out.z)
        have fz : ∀ i, w2.frozen? ⟨w.heap.size, i, none⟩ = false := fun i => frozen_of_row _ _ _ _ _ HVB.out.z
        have fz0 := fz 0
        have fz1 := fz 1
        have fz2 := fz 2
        have fz3 := fz 3
        have fz4 := fz 4
        have fz5 := fz 5
        clear fz
        go_wp2_with fail
        (refine bodyPost_ret (v := .agg #[.int .i64 0, .int .i64 0, .int .u64 0, .string ⟨#[]⟩, .slice none 0 0, .slice none 0 0]) (by simp [results, Tryz.results30, go_sem, *]) rfl ?_)
        obtain ⟨q1, q2, q3⟩ := HVB.out.fin (.int .i64 0) (.int .i64 0) (.int .u64 0) (.string ⟨#[]⟩) (.slice none 0 0) (.slice none 0 0)
        rw [valP_bad (g := g) (show preP deep t many = .error (t.from_, 100) by unfold preP; rw [if_pos HKB.out])]
        exact ⟨q2, zeroD, _, rfl, ⟨_, _, _, _, _, _, [], rfl, zero_rep _, by simp, by simp⟩, many, q3⟩
    · by_cases hdb : 64 ≤ deep
      · go_wp2_with fail
        refine (rfail_any s (.ok t) many R t.from_ 100 (by decide) wn HVB.out.s).mono ?_
        rintro o w1 ⟨rfl, hs, ht⟩
        have hvb : VB w R s many (.error (t.from_, 100)) w1 := HVB.out.step hs ht
        obtain ⟨-, t1, hr⟩ := hs
        dsimp only at hr
        clear HVB ht c2 c7 c9
        have HVB := Lib.hid hvb
        clear hvb
        obtain ⟨-, -, c2, -, -, -, -, c7, -, c9, -⟩ := hr.cells
        clear hr
        go_wp2_with fail
        refine (rfail_any s (.error (t.from_, 100)) many R t1.from_ 61 (by decide) w1 HVB.out.s).mono ?_
        rintro o w2 ⟨rfl, hs, ht⟩
        have hvb : VB w R s many (.error (t.from_, 100)) w2 := HVB.out.step hs ht
        obtain ⟨-, t2, hr⟩ := hs
        dsimp only at hr
        clear HVB ht c2 c7 c9
        have HVB := Lib.hid hvb
        clear hvb
        obtain ⟨-, -, c2, -, -, -, -, c7, -, c9, -⟩ := hr.cells
        clear hr
        obtain ⟨z0, z1, z2, z3, z4, z5⟩ := cells6 (show w2.heap[w.heap.size]? = some (.cells #[.int .i64 0, .int .i64 0, .int .u64 0, .string ⟨#[]⟩, .slice none 0 0, .slice none 0 0] 27 (0, 0)) from HVB.out.z)
        have fz : ∀ i, w2.frozen? ⟨w.heap.size, i, none⟩ = false := fun i => frozen_of_row _ _ _ _ _ HVB.out.z
        have fz0 := fz 0
        have fz1 := fz 1
        have fz2 := fz 2
        have fz3 := fz 3
        have fz4 := fz 4
        have fz5 := fz 5
        clear fz
        go_wp2_with fail
        (refine bodyPost_ret (v := .agg #[.int .i64 0, .int .i64 0, .int .u64 0, .string ⟨#[]⟩, .slice none 0 0, .slice none 0 0]) (by simp [results, Tryz.results30, go_sem, *]) rfl ?_)
        obtain ⟨q1, q2, q3⟩ := HVB.out.fin (.int .i64 0) (.int .i64 0) (.int .u64 0) (.string ⟨#[]⟩) (.slice none 0 0) (.slice none 0 0)
        rw [valP_bad (g := g) (show preP deep t many = .error (t.from_, 100) by unfold preP; rw [if_pos HKB.out])]
        exact ⟨q2, zeroD, _, rfl, ⟨_, _, _, _, _, _, [], rfl, zero_rep _, by simp, by simp⟩, many, q3⟩
      · go_wp2_with fail
        refine (rfail_any s (.ok t) many R t.from_ 100 (by decide) wn HVB.out.s).mono ?_
        rintro o w1 ⟨rfl, hs, ht⟩
        have hvb : VB w R s many (.error (t.from_, 100)) w1 := HVB.out.step hs ht
        obtain ⟨-, t1, hr⟩ := hs
        dsimp only at hr
        clear HVB ht c2 c7 c9
        have HVB := Lib.hid hvb
        clear hvb
        obtain ⟨-, -, c2, -, -, -, -, c7, -, c9, -⟩ := hr.cells
        clear hr
        obtain ⟨z0, z1, z2, z3, z4, z5⟩ := cells6 (show w1.heap[w.heap.size]? = some (.cells #[.int .i64 0, .int .i64 0, .int .u64 0, .string ⟨#[]⟩, .slice none 0 0, .slice none 0 0] 27 (0, 0)) from HVB.out.z)
        have fz : ∀ i, w1.frozen? ⟨w.heap.size, i, none⟩ = false := fun i => frozen_of_row _ _ _ _ _ HVB.out.z
        have fz0 := fz 0
        have fz1 := fz 1
        have fz2 := fz 2
        have fz3 := fz 3
        have fz4 := fz 4
        have fz5 := fz 5
        clear fz
        go_wp2_with fail
        (refine bodyPost_ret (v := .agg #[.int .i64 0, .int .i64 0, .int .u64 0, .string ⟨#[]⟩, .slice none 0 0, .slice none 0 0]) (by simp [results, Tryz.results30, go_sem, *]) rfl ?_)
        obtain ⟨q1, q2, q3⟩ := HVB.out.fin (.int .i64 0) (.int .i64 0) (.int .u64 0) (.string ⟨#[]⟩) (.slice none 0 0) (.slice none 0 0)
        rw [valP_bad (g := g) (show preP deep t many = .error (t.from_, 100) by unfold preP; rw [if_pos HKB.out])]
        exact ⟨q2, zeroD, _, rfl, ⟨_, _, _, _, _, _, [], rfl, zero_rep _, by simp, by simp⟩, many, q3⟩
  · have HKB := Lib.hid hK
    have h3w : ¬ t.kind < 7 ∨ t.kind = 1 ∨ t.kind = 3 := by
      simp only [bgB, Bool.or_eq_false_iff, Bool.and_eq_false_iff, decide_eq_false_iff_not] at hK
      omega
    clear hK
    by_cases hmb : 4096 ≤ many
    · clear HBAD
      by_cases hdb : 64 ≤ deep
      · rcases h3w with h7 | h7 | h7
        · have HMB := Lib.hid hmb
          have HDB := Lib.hid hdb
          go_wp2_with fail
          refine (rfail_any s (.ok t) many R t.from_ 5 (by decide) wn HVB.out.s).mono ?_
          rintro o w1 ⟨rfl, hs, ht⟩
          have hvb : VB w R s many (.error (t.from_, 5)) w1 := HVB.out.step hs ht
          obtain ⟨-, t1, hr⟩ := hs
          dsimp only at hr
          clear HVB ht c2 c7 c9
          have HVB := Lib.hid hvb
          clear hvb
          obtain ⟨-, -, c2, -, -, -, -, c7, -, c9, -⟩ := hr.cells
          clear hr
          go_wp2_with fail
          refine (rfail_any s (.error (t.from_, 5)) many R t1.from_ 61 (by decide) w1 HVB.out.s).mono ?_
          rintro o w2 ⟨rfl, hs, ht⟩
          have hvb : VB w R s many (.error (t.from_, 5)) w2 := HVB.out.step hs ht
          obtain ⟨-, t2, hr⟩ := hs
          dsimp only at hr
          clear HVB ht c2 c7 c9
          have HVB := Lib.hid hvb
          clear hvb
          obtain ⟨-, -, c2, -, -, -, -, c7, -, c9, -⟩ := hr.cells
          clear hr
          obtain ⟨z0, z1, z2, z3, z4, z5⟩ := cells6 (show w2.heap[w.heap.size]? = some (.cells #[.int .i64 0, .int .i64 0, .int .u64 0, .string ⟨#[]⟩, .slice none 0 0, .slice none 0 0] 27 (0, 0)) from HVB.out.z)
          have fz : ∀ i, w2.frozen? ⟨w.heap.size, i, none⟩ = false := fun i => frozen_of_row _ _ _ _ _ HVB.out.z
          have fz0 := fz 0
          have fz1 := fz 1
          have fz2 := fz 2
          have fz3 := fz 3
          have fz4 := fz 4
          have fz5 := fz 5
          clear fz
          go_wp2_with fail
          (refine bodyPost_ret (v := .agg #[.int .i64 0, .int .i64 0, .int .u64 0, .string ⟨#[]⟩, .slice none 0 0, .slice none 0 0]) (by simp [results, Tryz.results30, go_sem, *]) rfl ?_)
          obtain ⟨q1, q2, q3⟩ := HVB.out.fin (.int .i64 0) (.int .i64 0) (.int .u64 0) (.string ⟨#[]⟩) (.slice none 0 0) (.slice none 0 0)
          rw [valP_bad (g := g) (show preP deep t many = .error (t.from_, 5) by unfold preP; rw [if_neg HKB.out, if_pos (show 4096 ≤ many by have := HMB.out; omega)])]
          exact ⟨q2, zeroD, _, rfl, ⟨_, _, _, _, _, _, [], rfl, zero_rep _, by simp, by simp⟩, many, q3⟩
        · have HMB := Lib.hid hmb
          have HDB := Lib.hid hdb
          go_wp2_with fail
          refine (rfail_any s (.ok t) many R t.from_ 5 (by decide) wn HVB.out.s).mono ?_
          rintro o w1 ⟨rfl, hs, ht⟩
          have hvb : VB w R s many (.error (t.from_, 5)) w1 := HVB.out.step hs ht
          obtain ⟨-, t1, hr⟩ := hs
          dsimp only at hr
          clear HVB ht c2 c7 c9
          have HVB := Lib.hid hvb
          clear hvb
          obtain ⟨-, -, c2, -, -, -, -, c7, -, c9, -⟩ := hr.cells
          clear hr
          go_wp2_with fail
          refine (rfail_any s (.error (t.from_, 5)) many R t1.from_ 61 (by decide) w1 HVB.out.s).mono ?_
          rintro o w2 ⟨rfl, hs, ht⟩
          have hvb : VB w R s many (.error (t.from_, 5)) w2 := HVB.out.step hs ht
          obtain ⟨-, t2, hr⟩ := hs
          dsimp only at hr
          clear HVB ht c2 c7 c9
          have HVB := Lib.hid hvb
          clear hvb
          obtain ⟨-, -, c2, -, -, -, -, c7, -, c9, -⟩ := hr.cells
          clear hr
          obtain ⟨z0, z1, z2, z3, z4, z5⟩ := cells6 (show w2.heap[w.heap.size]? = some (.cells #[.int .i64 0, .int .i64 0, .int .u64 0, .string ⟨#[]⟩, .slice none 0 0, .slice none 0 0] 27 (0, 0)) from HVB.out.z)
          have fz : ∀ i, w2.frozen? ⟨w.heap.size, i, none⟩ = false := fun i => frozen_of_row _ _ _ _ _ HVB.out.z
          have fz0 := fz 0
          have fz1 := fz 1
          have fz2 := fz 2
          have fz3 := fz 3
          have fz4 := fz 4
          have fz5 := fz 5
          clear fz
          go_wp2_with fail
          (refine bodyPost_ret (v := .agg #[.int .i64 0, .int .i64 0, .int .u64 0, .string ⟨#[]⟩, .slice none 0 0, .slice none 0 0]) (by simp [results, Tryz.results30, go_sem, *]) rfl ?_)
          obtain ⟨q1, q2, q3⟩ := HVB.out.fin (.int .i64 0) (.int .i64 0) (.int .u64 0) (.string ⟨#[]⟩) (.slice none 0 0) (.slice none 0 0)
          rw [valP_bad (g := g) (show preP deep t many = .error (t.from_, 5) by unfold preP; rw [if_neg HKB.out, if_pos (show 4096 ≤ many by have := HMB.out; omega)])]
          exact ⟨q2, zeroD, _, rfl, ⟨_, _, _, _, _, _, [], rfl, zero_rep _, by simp, by simp⟩, many, q3⟩
        · have HMB := Lib.hid hmb
          have HDB := Lib.hid hdb
          go_wp2_with fail
          refine (rfail_any s (.ok t) many R t.from_ 5 (by decide) wn HVB.out.s).mono ?_
          rintro o w1 ⟨rfl, hs, ht⟩
          have hvb : VB w R s many (.error (t.from_, 5)) w1 := HVB.out.step hs ht
          obtain ⟨-, t1, hr⟩ := hs
          dsimp only at hr
          clear HVB ht c2 c7 c9
          have HVB := Lib.hid hvb
          clear hvb
          obtain ⟨-, -, c2, -, -, -, -, c7, -, c9, -⟩ := hr.cells
          clear hr
          go_wp2_with fail
          refine (rfail_any s (.error (t.from_, 5)) many R t1.from_ 61 (by decide) w1 HVB.out.s).mono ?_
          rintro o w2 ⟨rfl, hs, ht⟩
          have hvb : VB w R s many (.error (t.from_, 5)) w2 := HVB.out.step hs ht
          obtain ⟨-, t2, hr⟩ := hs
          dsimp only at hr
          clear HVB ht c2 c7 c9
          have HVB := Lib.hid hvb
          clear hvb
          obtain ⟨-, -, c2, -, -, -, -, c7, -, c9, -⟩ := hr.cells
          clear hr
          obtain ⟨z0, z1, z2, z3, z4, z5⟩ := cells6 (show w2.heap[w.heap.size]? = some (.cells #[.int .i64 0, .int .i64 0, .int .u64 0, .string ⟨#[]⟩, .slice none 0 0, .slice none 0 0] 27 (0, 0)) from HVB.out.z)
          have fz : ∀ i, w2.frozen? ⟨w.heap.size, i, none⟩ = false := fun i => frozen_of_row _ _ _ _ _ HVB.out.z
          have fz0 := fz 0
          have fz1 := fz 1
          have fz2 := fz 2
          have fz3 := fz 3
          have fz4 := fz 4
          have fz5 := fz 5
          clear fz
          go_wp2_with fail
          (refine bodyPost_ret (v := .agg #[.int .i64 0, .int .i64 0, .int .u64 0, .string ⟨#[]⟩, .slice none 0 0, .slice none 0 0]) (by simp [results, Tryz.results30, go_sem, *]) rfl ?_)
          obtain ⟨q1, q2, q3⟩ := HVB.out.fin (.int .i64 0) (.int .i64 0) (.int .u64 0) (.string ⟨#[]⟩) (.slice none 0 0) (.slice none 0 0)
          rw [valP_bad (g := g) (show preP deep t many = .error (t.from_, 5) by unfold preP; rw [if_neg HKB.out, if_pos (show 4096 ≤ many by have := HMB.out; omega)])]
          exact ⟨q2, zeroD, _, rfl, ⟨_, _, _, _, _, _, [], rfl, zero_rep _, by simp, by simp⟩, many, q3⟩
      · rcases h3w with h7 | h7 | h7
        · have HMB := Lib.hid hmb
          have HDB := Lib.hid hdb
          go_wp2_with fail
          refine (rfail_any s (.ok t) many R t.from_ 5 (by decide) wn HVB.out.s).mono ?_
          rintro o w1 ⟨rfl, hs, ht⟩
          have hvb : VB w R s many (.error (t.from_, 5)) w1 := HVB.out.step hs ht
          obtain ⟨-, t1, hr⟩ := hs
          dsimp only at hr
          clear HVB ht c2 c7 c9
          have HVB := Lib.hid hvb
          clear hvb
          obtain ⟨-, -, c2, -, -, -, -, c7, -, c9, -⟩ := hr.cells
          clear hr
          obtain ⟨z0, z1, z2, z3, z4, z5⟩ := cells6 (show w1.heap[w.heap.size]? = some (.cells #[.int .i64 0, .int .i64 0, .int .u64 0, .string ⟨#[]⟩, .slice none 0 0, .slice none 0 0] 27 (0, 0)) from HVB.out.z)
          have fz : ∀ i, w1.frozen? ⟨w.heap.size, i, none⟩ = false := fun i => frozen_of_row _ _ _ _ _ HVB.out.z
          have fz0 := fz 0
          have fz1 := fz 1
          have fz2 := fz 2
          have fz3 := fz 3
          have fz4 := fz 4
          have fz5 := fz 5
          clear fz
          go_wp2_with fail
          (refine bodyPost_ret (v := .agg #[.int .i64 0, .int .i64 0, .int .u64 0, .string ⟨#[]⟩, .slice none 0 0, .slice none 0 0]) (by simp [results, Tryz.results30, go_sem, *]) rfl ?_)
          obtain ⟨q1, q2, q3⟩ := HVB.out.fin (.int .i64 0) (.int .i64 0) (.int .u64 0) (.string ⟨#[]⟩) (.slice none 0 0) (.slice none 0 0)
          rw [valP_bad (g := g) (show preP deep t many = .error (t.from_, 5) by unfold preP; rw [if_neg HKB.out, if_pos (show 4096 ≤ many by have := HMB.out; omega)])]
          exact ⟨q2, zeroD, _, rfl, ⟨_, _, _, _, _, _, [], rfl, zero_rep _, by simp, by simp⟩, many, q3⟩
        · have HMB := Lib.hid hmb
          have HDB := Lib.hid hdb
          go_wp2_with fail
          refine (rfail_any s (.ok t) many R t.from_ 5 (by decide) wn HVB.out.s).mono ?_
          rintro o w1 ⟨rfl, hs, ht⟩
          have hvb : VB w R s many (.error (t.from_, 5)) w1 := HVB.out.step hs ht
          obtain ⟨-, t1, hr⟩ := hs
          dsimp only at hr
          clear HVB ht c2 c7 c9
          have HVB := Lib.hid hvb
          clear hvb
          obtain ⟨-, -, c2, -, -, -, -, c7, -, c9, -⟩ := hr.cells
          clear hr
          obtain ⟨z0, z1, z2, z3, z4, z5⟩ := cells6 (show w1.heap[w.heap.size]? = some (.cells #[.int .i64 0, .int .i64 0, .int .u64 0, .string ⟨#[]⟩, .slice none 0 0, .slice none 0 0] 27 (0, 0)) from HVB.out.z)
          have fz : ∀ i, w1.frozen? ⟨w.heap.size, i, none⟩ = false := fun i => frozen_of_row _ _ _ _ _ HVB.out.z
          have fz0 := fz 0
          have fz1 := fz 1
          have fz2 := fz 2
          have fz3 := fz 3
          have fz4 := fz 4
          have fz5 := fz 5
          clear fz
          go_wp2_with fail
          (refine bodyPost_ret (v := .agg #[.int .i64 0, .int .i64 0, .int .u64 0, .string ⟨#[]⟩, .slice none 0 0, .slice none 0 0]) (by simp [results, Tryz.results30, go_sem, *]) rfl ?_)
          obtain ⟨q1, q2, q3⟩ := HVB.out.fin (.int .i64 0) (.int .i64 0) (.int .u64 0) (.string ⟨#[]⟩) (.slice none 0 0) (.slice none 0 0)
          rw [valP_bad (g := g) (show preP deep t many = .error (t.from_, 5) by unfold preP; rw [if_neg HKB.out, if_pos (show 4096 ≤ many by have := HMB.out; omega)])]
          exact ⟨q2, zeroD, _, rfl, ⟨_, _, _, _, _, _, [], rfl, zero_rep _, by simp, by simp⟩, many, q3⟩
        · have HMB := Lib.hid hmb
          have HDB := Lib.hid hdb
          go_wp2_with fail
          refine (rfail_any s (.ok t) many R t.from_ 5 (by decide) wn HVB.out.s).mono ?_
          rintro o w1 ⟨rfl, hs, ht⟩
          have hvb : VB w R s many (.error (t.from_, 5)) w1 := HVB.out.step hs ht
          obtain ⟨-, t1, hr⟩ := hs
          dsimp only at hr
          clear HVB ht c2 c7 c9
          have HVB := Lib.hid hvb
          clear hvb
          obtain ⟨-, -, c2, -, -, -, -, c7, -, c9, -⟩ := hr.cells
          clear hr
          obtain ⟨z0, z1, z2, z3, z4, z5⟩ := cells6 (show w1.heap[w.heap.size]? = some (.cells #[.int .i64 0, .int .i64 0, .int .u64 0, .string ⟨#[]⟩, .slice none 0 0, .slice none 0 0] 27 (0, 0)) from HVB.out.z)
          have fz : ∀ i, w1.frozen? ⟨w.heap.size, i, none⟩ = false := fun i => frozen_of_row _ _ _ _ _ HVB.out.z
          have fz0 := fz 0
          have fz1 := fz 1
          have fz2 := fz 2
          have fz3 := fz 3
          have fz4 := fz 4
          have fz5 := fz 5
          clear fz
          go_wp2_with fail
          (refine bodyPost_ret (v := .agg #[.int .i64 0, .int .i64 0, .int .u64 0, .string ⟨#[]⟩, .slice none 0 0, .slice none 0 0]) (by simp [results, Tryz.results30, go_sem, *]) rfl ?_)
          obtain ⟨q1, q2, q3⟩ := HVB.out.fin (.int .i64 0) (.int .i64 0) (.int .u64 0) (.string ⟨#[]⟩) (.slice none 0 0) (.slice none 0 0)
          rw [valP_bad (g := g) (show preP deep t many = .error (t.from_, 5) by unfold preP; rw [if_neg HKB.out, if_pos (show 4096 ≤ many by have := HMB.out; omega)])]
          exact ⟨q2, zeroD, _, rfl, ⟨_, _, _, _, _, _, [], rfl, zero_rep _, by simp, by simp⟩, many, q3⟩
    · have hdb : 64 ≤ deep := by
        rcases HBAD.out with h | h | h
        · exact absurd h HKB.out
        · exact absurd h hmb
        · exact h
      clear HBAD
      rcases h3w with h7 | h7 | h7
      · have HMB := Lib.hid hmb
        have HDB := Lib.hid hdb
        go_wp2_with fail
        refine (rfail_any s (.ok t) many R t.from_ 61 (by decide) wn HVB.out.s).mono ?_
        rintro o w1 ⟨rfl, hs, ht⟩
        have hvb : VB w R s many (.error (t.from_, 61)) w1 := HVB.out.step hs ht
        obtain ⟨-, t1, hr⟩ := hs
        dsimp only at hr
        clear HVB ht c2 c7 c9
        have HVB := Lib.hid hvb
        clear hvb
        obtain ⟨-, -, c2, -, -, -, -, c7, -, c9, -⟩ := hr.cells
        clear hr
        obtain ⟨z0, z1, z2, z3, z4, z5⟩ := cells6 (show w1.heap[w.heap.size]? = some (.cells #[.int .i64 0, .int .i64 0, .int .u64 0, .string ⟨#[]⟩, .slice none 0 0, .slice none 0 0] 27 (0, 0)) from HVB.out.z)
        have fz : ∀ i, w1.frozen? ⟨w.heap.size, i, none⟩ = false := fun i => frozen_of_row _ _ _ _ _ HVB.out.z
        have fz0 := fz 0
        have fz1 := fz 1
        have fz2 := fz 2
        have fz3 := fz 3
        have fz4 := fz 4
        have fz5 := fz 5
        clear fz
        go_wp2_with fail
        (refine bodyPost_ret (v := .agg #[.int .i64 0, .int .i64 0, .int .u64 0, .string ⟨#[]⟩, .slice none 0 0, .slice none 0 0]) (by simp [results, Tryz.results30, go_sem, *]) rfl ?_)
        obtain ⟨q1, q2, q3⟩ := HVB.out.fin (.int .i64 0) (.int .i64 0) (.int .u64 0) (.string ⟨#[]⟩) (.slice none 0 0) (.slice none 0 0)
        rw [valP_bad (g := g) (show preP deep t many = .error (t.from_, 61) by unfold preP; rw [if_neg HKB.out, if_neg (show ¬ 4096 ≤ many by have := HMB.out; omega), if_pos (show 64 ≤ deep by have := HDB.out; omega)])]
        exact ⟨q2, zeroD, _, rfl, ⟨_, _, _, _, _, _, [], rfl, zero_rep _, by simp, by simp⟩, many, q3⟩
      · have HMB := Lib.hid hmb
        have HDB := Lib.hid hdb
        go_wp2_with fail
        refine (rfail_any s (.ok t) many R t.from_ 61 (by decide) wn HVB.out.s).mono ?_
        rintro o w1 ⟨rfl, hs, ht⟩
        have hvb : VB w R s many (.error (t.from_, 61)) w1 := HVB.out.step hs ht
        obtain ⟨-, t1, hr⟩ := hs
        dsimp only at hr
        clear HVB ht c2 c7 c9
        have HVB := Lib.hid hvb
        clear hvb
        obtain ⟨-, -, c2, -, -, -, -, c7, -, c9, -⟩ := hr.cells
        clear hr
        obtain ⟨z0, z1, z2, z3, z4, z5⟩ := cells6 (show w1.heap[w.heap.size]? = some (.cells #[.int .i64 0, .int .i64 0, .int .u64 0, .string ⟨#[]⟩, .slice none 0 0, .slice none 0 0] 27 (0, 0)) from HVB.out.z)
        have fz : ∀ i, w1.frozen? ⟨w.heap.size, i, none⟩ = false := fun i => frozen_of_row _ _ _ _ _ HVB.out.z
        have fz0 := fz 0
        have fz1 := fz 1
        have fz2 := fz 2
        have fz3 := fz 3
        have fz4 := fz 4
        have fz5 := fz 5
        clear fz
        go_wp2_with fail
        (refine bodyPost_ret (v := .agg #[.int .i64 0, .int .i64 0, .int .u64 0, .string ⟨#[]⟩, .slice none 0 0, .slice none 0 0]) (by simp [results, Tryz.results30, go_sem, *]) rfl ?_)
        obtain ⟨q1, q2, q3⟩ := HVB.out.fin (.int .i64 0) (.int .i64 0) (.int .u64 0) (.string ⟨#[]⟩) (.slice none 0 0) (.slice none 0 0)
        rw [valP_bad (g := g) (show preP deep t many = .error (t.from_, 61) by unfold preP; rw [if_neg HKB.out, if_neg (show ¬ 4096 ≤ many by have := HMB.out; omega), if_pos (show 64 ≤ deep by have := HDB.out; omega)])]
        exact ⟨q2, zeroD, _, rfl, ⟨_, _, _, _, _, _, [], rfl, zero_rep _, by simp, by simp⟩, many, q3⟩
      · have HMB := Lib.hid hmb
        have HDB := Lib.hid hdb
        go_wp2_with fail
        refine (rfail_any s (.ok t) many R t.from_ 61 (by decide) wn HVB.out.s).mono ?_
        rintro o w1 ⟨rfl, hs, ht⟩
        have hvb : VB w R s many (.error (t.from_, 61)) w1 := HVB.out.step hs ht
        obtain ⟨-, t1, hr⟩ := hs
        dsimp only at hr
        clear HVB ht c2 c7 c9
        have HVB := Lib.hid hvb
        clear hvb
        obtain ⟨-, -, c2, -, -, -, -, c7, -, c9, -⟩ := hr.cells
        clear hr
        obtain ⟨z0, z1, z2, z3, z4, z5⟩ := cells6 (show w1.heap[w.heap.size]? = some (.cells #[.int .i64 0, .int .i64 0, .int .u64 0, .string ⟨#[]⟩, .slice none 0 0, .slice none 0 0] 27 (0, 0)) from HVB.out.z)
        have fz : ∀ i, w1.frozen? ⟨w.heap.size, i, none⟩ = false := fun i => frozen_of_row _ _ _ _ _ HVB.out.z
        have fz0 := fz 0
        have fz1 := fz 1
        have fz2 := fz 2
        have fz3 := fz 3
        have fz4 := fz 4
        have fz5 := fz 5
        clear fz
        go_wp2_with fail
        (refine bodyPost_ret (v := .agg #[.int .i64 0, .int .i64 0, .int .u64 0, .string ⟨#[]⟩, .slice none 0 0, .slice none 0 0]) (by simp [results, Tryz.results30, go_sem, *]) rfl ?_)
        obtain ⟨q1, q2, q3⟩ := HVB.out.fin (.int .i64 0) (.int .i64 0) (.int .u64 0) (.string ⟨#[]⟩) (.slice none 0 0) (.slice none 0 0)
        rw [valP_bad (g := g) (show preP deep t many = .error (t.from_, 61) by unfold preP; rw [if_neg HKB.out, if_neg (show ¬ 4096 ≤ many by have := HMB.out; omega), if_pos (show 64 ≤ deep by have := HDB.out; omega)])]
        exact ⟨q2, zeroD, _, rfl, ⟨_, _, _, _, _, _, [], rfl, zero_rep _, by simp, by simp⟩, many, q3⟩
end
section
open Go.RowKit Go.Shelf
theorem alloc2 (w : World) (o1 o2 : Obj) : ((w.alloc o1).alloc o2).heap[w.heap.size]? = some o1 ∧ ((w.alloc o1).alloc o2).heap[w.heap.size + 1]? = some o2 := by
  have s1 : (w.alloc o1).heap.size = w.heap.size + 1 := World.size_alloc _ _
  have h1 := heap_alloc_new w o1
  have h2 := heap_alloc_new (w.alloc o1) o2
  rw [s1] at h2
  exact ⟨(Below.heap_alloc (w.alloc o1) o2 _ (by omega)).trans h1, h2⟩
theorem set1_r {w : World} {R : Nat} {a0 a1 a2 a3 a4 a5 a6 a7 a8 a9 : Value} {ty : TypeId} (h : w.heap[R]? = some (.cells #[a0, a1, a2, a3, a4, a5, a6, a7, a8, a9] ty (0, 0))) (v7 : Value) :
    (w.setCell ⟨R, 7, none⟩ v7).heap[R]? = some (.cells #[a0, a1, a2, a3, a4, a5, a6, v7, a8, a9] ty (0, 0)) := by
  have h0 := heap_setCell_same w R 7 _ _ v7 h
  simp only [List.setIfInBounds_toArray, List.set_cons_zero, List.set_cons_succ] at h0
  exact h0
/-- Behind the checks: the count, the token's copy in a block of its own. -/
theorem value_pre {w : World} {R : Nat} {s : List UInt8} {t : Tok} {many : Int} (h : RRow w R s t many 0 0) : VB w R s (many + 1) (.ok t) (((w.setCell ⟨R, 7, none⟩ (.int .i64 (many + 1))).alloc (.cells zC.toArray 27)).alloc (.cells #[.int .i64 t.kind, .int .i64 t.from_, .int .i64 t.to_, .int .i64 t.n, .int .u64 t.u, strV t.text] 64)) ∧
    (((w.setCell ⟨R, 7, none⟩ (.int .i64 (many + 1))).alloc (.cells zC.toArray 27)).alloc (.cells #[.int .i64 t.kind, .int .i64 t.from_, .int .i64 t.to_, .int .i64 t.n, .int .u64 t.u, strV t.text] 64)).heap[w.heap.size + 1]? = some (.cells #[.int .i64 t.kind, .int .i64 t.from_, .int .i64 t.to_, .int .i64 t.n, .int .u64 t.u, strV t.text] 64 (0, 0)) := by
  have hR := h.lt
  have h1 := set1_r h.1 (.int .i64 (many + 1))
  have hs : (w.setCell ⟨R, 7, none⟩ (.int .i64 (many + 1))).heap.size = w.heap.size := World.size_setCell _ _ _
  have h2 := alloc2 (w.setCell ⟨R, 7, none⟩ (.int .i64 (many + 1))) (.cells zC.toArray 27) (.cells #[.int .i64 t.kind, .int .i64 t.from_, .int .i64 t.to_, .int .i64 t.n, .int .u64 t.u, strV t.text] 64)
  rw [hs] at h2
  have hbl : Below (w.setCell ⟨R, 7, none⟩ (.int .i64 (many + 1))).heap.size (w.setCell ⟨R, 7, none⟩ (.int .i64 (many + 1))) (((w.setCell ⟨R, 7, none⟩ (.int .i64 (many + 1))).alloc (.cells zC.toArray 27)).alloc (.cells #[.int .i64 t.kind, .int .i64 t.from_, .int .i64 t.to_, .int .i64 t.n, .int .u64 t.u, strV t.text] 64)) := ((Below.refl _ _).alloc (Nat.le_refl _) _).alloc (by rw [World.size_alloc]; omega) _
  exact ⟨⟨⟨(hbl.block R (by rw [hs]; exact hR)).trans h1, h.2⟩, (Touch.setCell w R 7 _).trans (Touch.quiet hbl), h2.1, hR⟩, h2.2⟩
set_option maxHeartbeats 16000000 in
set_option maxRecDepth 100000 in
theorem rvalue_good (s : List UInt8) (hl : s.length ≤ 1073741824) (g : Nat) (HL : RListC s g) (HM : RMembC s g) (deep : Int) (t : Tok) (many : Int) (R : Nat) (w : World) (h : RSt w R s many (.ok t)) (hm0 : 0 ≤ many) (hf : 2 * (4096 - many) + 1 ≤ ((g + 1 : Nat) : Int)) (hd0 : 0 ≤ deep) (hb : bgB t.kind = true) (hm : ¬ 4096 ≤ many) (hd : ¬ 64 ≤ deep) :
    Calls Tryz.prog 30 #[.pointer (some ⟨R, 0, none⟩), .int .i64 deep] w (RValPost w R s (valP s (g + 1) deep t many)) := by
  have hR := h.lt
  have hr : RRow w R s t many 0 0 := h
  have hpre := value_pre hr
  have HGD := Lib.hid (valP_good (s := s) (g := g) hb hm hd)
  have HN := Lib.hid fun (W : World) (h : RSt W R s (many + 1) (.ok t)) => rnextr_any s (.ok t) (many + 1) R W h hl
  have HLL := Lib.hid fun (W : World) (h : RSt W R s (many + 1) (nextP s t)) => HL deep (nextP s t) (many + 1) R W h (by omega) (by omega) (by push_cast at hf; omega) hd0 (by omega)
  have HMM := Lib.hid fun (W : World) (h : RSt W R s (many + 1) (nextP s t)) => HM deep (nextP s t) (many + 1) R W h (by omega) (by omega) (by push_cast at hf; omega) hd0 (by omega)
  have HNX := Lib.hid (show nextS s (.ok t) = nextP s t from rfl)
  have hk : t.kind = 3 ∨ t.kind = 1 ∨ t.kind = 7 ∨ t.kind = 8 ∨ t.kind = 9 ∨ t.kind = 10 ∨ t.kind = 11 ∨ t.kind = 12 := by
    simp only [bgB, Bool.or_eq_true, Bool.and_eq_true, decide_eq_true_eq] at hb
    omega
  obtain ⟨c0, c1, c2, c3, c4, c5, c6, c7, c8, c9, cf⟩ := hr.cells
  have f7 := cf 7
  have q1 : IntKind.i64.wrap (many + 1) = many + 1 := IntWalk.i64_in _ (by omega)
  have HPRE := Lib.hid hpre
  have hmz : ¬ (4096 : Int) ≤ many := hm
  have hdz : ¬ (64 : Int) ≤ deep := hd
  clear h hr hpre hb hm hd hf HL HM cf hd0 hm0
  rcases hk with hk | hk | hk | hk | hk | hk | hk | hk
  · have HK := Lib.hid hk
    rw [hk] at c1 HPRE
    clear hk
    unfold strV at c0 c6 HPRE
    have HEQ : Hid (t.kind = 3) := HK
    go_enter Tryz.func30, Tryz.ntmps30
    go_upto_region 12 with fail
    refine wp_named (fun wx => VB w R s (many + 1) (.ok t) wx ∧ wx.heap[w.heap.size + 1]? = some (.cells #[.int .i64 3, .int .i64 t.from_, .int .i64 t.to_, .int .i64 t.n, .int .u64 t.u, .string ⟨t.text.toArray⟩] 64 (0, 0))) HPRE.out ?_
    clear HPRE c0 c1 c2 c3 c4 c5 c6 c7 c8 c9 f7 q1 hmz hdz
    rintro wx ⟨hvb, hy⟩
    have HVB := Lib.hid hvb
    have HY := Lib.hid hy
    clear hvb hy
    go_wp2_with fail
    refine (HN.out wx HVB.out.s).mono ?_
    rintro o w1 ⟨rfl, hs, ht⟩
    rw [HNX.out] at hs
    have hvb1 := HVB.out.step hs ht
    have hy1 := (ht.block _ (Array.getElem?_eq_some_iff.1 HY.out).1 (by have := HVB.out.l; simp; omega)).trans HY.out
    clear HVB HY hs ht HN
    have HVB := Lib.hid hvb1
    have HY := Lib.hid hy1
    clear hvb1 hy1
    go_wp2_with fail
    refine (HLL.out w1 HVB.out.s).mono ?_
    rintro o w2 ⟨ht, L, v, xs, bl, rfl, hK, hpost⟩
    obtain ⟨A, c, rfl⟩ := owns_ptr hK.r
    have hzz : w2.heap[w.heap.size]? = some (.cells zC.toArray 27 (0, 0)) := (ht.block _ (Array.getElem?_eq_some_iff.1 HVB.out.z).1 (by have := HVB.out.l; simp; omega)).trans HVB.out.z
    have hT := HVB.out.t.trans ht
    have hlt := HVB.out.l
    have hw1 : w.heap.size < w1.heap.size := (Array.getElem?_eq_some_iff.1 HVB.out.z).1
    clear HVB ht HLL HMM HY HNX
    have HK2 := Lib.hid hK
    have HPO := Lib.hid hpost
    have HT := Lib.hid hT
    have HZZ := Lib.hid hzz
    clear hK hpost hT hzz
    obtain ⟨z0, z1, z2, z3, z4, z5⟩ := cells6 (show w2.heap[w.heap.size]? = some (.cells #[.int .i64 0, .int .i64 0, .int .u64 0, .string ⟨#[]⟩, .slice none 0 0, .slice none 0 0] 27 (0, 0)) from HZZ.out)
    have fz : ∀ i, w2.frozen? ⟨w.heap.size, i, none⟩ = false := fun i => frozen_of_row _ _ _ _ _ HZZ.out
    have fz0 := fz 0
    have fz1 := fz 1
    have fz2 := fz 2
    have fz3 := fz 3
    have fz4 := fz 4
    have fz5 := fz 5
    clear fz
    go_wp2_with fail
    (refine bodyPost_ret (v := .agg #[.int .i64 10, .int .i64 0, .int .u64 0, .string ⟨#[]⟩, .slice none 0 0, .slice A L.length c]) (by simp [results, Tryz.results30, go_sem, *]) rfl ?_)
    have hoth : ∀ i, i ≠ w.heap.size → ((((((w2.setCell ⟨w.heap.size, 0, none⟩ (.int .i64 10)).setCell ⟨w.heap.size, 1, none⟩ (.int .i64 0)).setCell ⟨w.heap.size, 2, none⟩ (.int .u64 0)).setCell ⟨w.heap.size, 3, none⟩ (.string ⟨#[]⟩)).setCell ⟨w.heap.size, 4, none⟩ (.slice none 0 0)).setCell ⟨w.heap.size, 5, none⟩ (.slice A L.length c)).heap[i]? = w2.heap[i]? := by
      intro i hne
      rw [heap_setCell_other _ _ _ _ hne, heap_setCell_other _ _ _ _ hne, heap_setCell_other _ _ _ _ hne, heap_setCell_other _ _ _ _ hne, heap_setCell_other _ _ _ _ hne, heap_setCell_other _ _ _ _ hne]
    rw [HGD.out, if_pos (Or.inl HK.out)]
    refine ⟨six_over HT.out (Nat.le_refl _) _ _ _ _ _ _, .mk 10 0 0 [] [] L, _, rfl, (Kids.fresh HK2.out (fun i hi => hoth i (by have := HK2.out.ge i hi; omega)) 10 0 0 []).mono (by omega), ?_⟩
    have hp := HPO.out
    rw [show decide (t.kind = 1) = false from decide_eq_false (by rw [HK.out]; decide)]
    cases hq : allR s g false deep (many + 1) (nextP s t) with
    | error y =>
      rw [hq] at hp
      obtain ⟨m, hm⟩ := hp
      exact ⟨m, hm.same (hoth R (by omega))⟩
    | ok p =>
      obtain ⟨ks, l, t2, m⟩ := p
      rw [hq] at hp
      obtain ⟨rfl, hs⟩ := hp
      dsimp only
      refine ⟨?_, RSt.same hs (hoth R (by omega))⟩
      have hks : ks = [] := by
        unfold allR at hq
        split at hq
        · exact each_nokey _ _ _ _ _ _ _ _ _ _ hq
        · cases hq
      rw [hks, if_neg (by rw [HK.out]; decide)]
  · have HK := Lib.hid hk
    rw [hk] at c1 HPRE
    clear hk
    unfold strV at c0 c6 HPRE
    have HEQ : Hid (t.kind = 1) := HK
    go_enter Tryz.func30, Tryz.ntmps30
    go_upto_region 12 with fail
    refine wp_named (fun wx => VB w R s (many + 1) (.ok t) wx ∧ wx.heap[w.heap.size + 1]? = some (.cells #[.int .i64 1, .int .i64 t.from_, .int .i64 t.to_, .int .i64 t.n, .int .u64 t.u, .string ⟨t.text.toArray⟩] 64 (0, 0))) HPRE.out ?_
    clear HPRE c0 c1 c2 c3 c4 c5 c6 c7 c8 c9 f7 q1 hmz hdz
    rintro wx ⟨hvb, hy⟩
    have HVB := Lib.hid hvb
    have HY := Lib.hid hy
    clear hvb hy
    go_wp2_with fail
    refine (HN.out wx HVB.out.s).mono ?_
    rintro o w1 ⟨rfl, hs, ht⟩
    rw [HNX.out] at hs
    have hvb1 := HVB.out.step hs ht
    have hy1 := (ht.block _ (Array.getElem?_eq_some_iff.1 HY.out).1 (by have := HVB.out.l; simp; omega)).trans HY.out
    clear HVB HY hs ht HN
    have HVB := Lib.hid hvb1
    have HY := Lib.hid hy1
    clear hvb1 hy1
    go_wp2_with fail
    refine (HMM.out w1 HVB.out.s).mono ?_
    rintro o w2 ⟨ht, ks1, L, v, rfl, hF, hpost⟩
    obtain ⟨x0, x1, x2, x3, x4, x5, bs, rfl, hN, hnd, hge⟩ := hF
    obtain ⟨kd1, nn1, uu1, s1, B1, n1, d1, B2, n2, d2, rfl, rfl, rfl, rfl, rfl, rfl⟩ := hN.form2
    have hzz : w2.heap[w.heap.size]? = some (.cells zC.toArray 27 (0, 0)) := (ht.block _ (Array.getElem?_eq_some_iff.1 HVB.out.z).1 (by have := HVB.out.l; simp; omega)).trans HVB.out.z
    have hT := HVB.out.t.trans ht
    have hlt := HVB.out.l
    have hw1 : w.heap.size < w1.heap.size := (Array.getElem?_eq_some_iff.1 HVB.out.z).1
    clear HVB ht HLL HMM HY HNX
    have HF2 : Hid (Fresh w1.heap.size w2 (.mk 17 0 0 [] ks1 L) (.agg #[.int .i64 kd1, .int .i64 nn1, .int .u64 uu1, .string s1, .slice B1 n1 d1, .slice B2 n2 d2])) := Lib.hid ⟨_, _, _, _, _, _, bs, rfl, hN, hnd, hge⟩
    have HPO := Lib.hid hpost
    have HT := Lib.hid hT
    have HZZ := Lib.hid hzz
    clear hN hnd hge hpost hT hzz
    obtain ⟨z0, z1, z2, z3, z4, z5⟩ := cells6 (show w2.heap[w.heap.size]? = some (.cells #[.int .i64 0, .int .i64 0, .int .u64 0, .string ⟨#[]⟩, .slice none 0 0, .slice none 0 0] 27 (0, 0)) from HZZ.out)
    have fz : ∀ i, w2.frozen? ⟨w.heap.size, i, none⟩ = false := fun i => frozen_of_row _ _ _ _ _ HZZ.out
    have fz0 := fz 0
    have fz1 := fz 1
    have fz2 := fz 2
    have fz3 := fz 3
    have fz4 := fz 4
    have fz5 := fz 5
    clear fz
    go_wp2_with fail
    (refine bodyPost_ret (v := .agg #[.int .i64 kd1, .int .i64 nn1, .int .u64 uu1, .string s1, .slice B1 n1 d1, .slice B2 n2 d2]) (by simp [results, Tryz.results30, go_sem, *]) rfl ?_)
    have hoth : ∀ i, i ≠ w.heap.size → ((((((w2.setCell ⟨w.heap.size, 0, none⟩ (.int .i64 kd1)).setCell ⟨w.heap.size, 1, none⟩ (.int .i64 nn1)).setCell ⟨w.heap.size, 2, none⟩ (.int .u64 uu1)).setCell ⟨w.heap.size, 3, none⟩ (.string s1)).setCell ⟨w.heap.size, 4, none⟩ (.slice B1 n1 d1)).setCell ⟨w.heap.size, 5, none⟩ (.slice B2 n2 d2)).heap[i]? = w2.heap[i]? := by
      intro i hne
      rw [heap_setCell_other _ _ _ _ hne, heap_setCell_other _ _ _ _ hne, heap_setCell_other _ _ _ _ hne, heap_setCell_other _ _ _ _ hne, heap_setCell_other _ _ _ _ hne, heap_setCell_other _ _ _ _ hne]
    rw [HGD.out, if_pos (Or.inr HK.out)]
    refine ⟨six_over HT.out (Nat.le_refl _) _ _ _ _ _ _, .mk 17 0 0 [] ks1 L, _, rfl, fresh_over HF2.out hw1 hoth (by omega), ?_⟩
    have hp := HPO.out
    rw [show decide (t.kind = 1) = true from decide_eq_true HK.out]
    cases hq : allR s g true deep (many + 1) (nextP s t) with
    | error y =>
      rw [hq] at hp
      obtain ⟨m, hm⟩ := hp
      exact ⟨m, hm.same (hoth R (by omega))⟩
    | ok p =>
      obtain ⟨ks, l, t2, m⟩ := p
      rw [hq] at hp
      obtain ⟨rfl, rfl, hs⟩ := hp
      dsimp only
      refine ⟨?_, RSt.same hs (hoth R (by omega))⟩
      rw [if_pos HK.out]
  · have HK := Lib.hid hk
    rw [hk] at c1 HPRE
    clear hk
    unfold strV at c0 c6 HPRE
    go_enter Tryz.func30, Tryz.ntmps30
    go_upto_region 12 with fail
    refine wp_named (fun wx => VB w R s (many + 1) (.ok t) wx ∧ wx.heap[w.heap.size + 1]? = some (.cells #[.int .i64 7, .int .i64 t.from_, .int .i64 t.to_, .int .i64 t.n, .int .u64 t.u, .string ⟨t.text.toArray⟩] 64 (0, 0))) HPRE.out ?_
    clear HPRE c0 c1 c2 c3 c4 c5 c6 c7 c8 c9 f7 q1 hmz hdz
    rintro wx ⟨hvb, hy⟩
    have HVB := Lib.hid hvb
    have HY := Lib.hid hy
    clear hvb hy
    go_wp2_with fail
    refine (HN.out wx HVB.out.s).mono ?_
    rintro o w1 ⟨rfl, hs, ht⟩
    rw [HNX.out] at hs
    have hvb1 := HVB.out.step hs ht
    have hy1 := (ht.block _ (Array.getElem?_eq_some_iff.1 HY.out).1 (by have := HVB.out.l; simp; omega)).trans HY.out
    clear HVB HY hs ht HN
    have HVB := Lib.hid hvb1
    have HY := Lib.hid hy1
    clear hvb1 hy1
    obtain ⟨y0, y1, y2, y3, y4, y5⟩ : w1.cell? ⟨w.heap.size + 1, 0, none⟩ = some (.int .i64 7) ∧ w1.cell? ⟨w.heap.size + 1, 1, none⟩ = some (.int .i64 t.from_) ∧ w1.cell? ⟨w.heap.size + 1, 2, none⟩ = some (.int .i64 t.to_) ∧ w1.cell? ⟨w.heap.size + 1, 3, none⟩ = some (.int .i64 t.n) ∧ w1.cell? ⟨w.heap.size + 1, 4, none⟩ = some (.int .u64 t.u) ∧ w1.cell? ⟨w.heap.size + 1, 5, none⟩ = some (.string ⟨t.text.toArray⟩) := ⟨cell_of_row _ _ _ _ _ _ HY.out, cell_of_row _ _ _ _ _ _ HY.out, cell_of_row _ _ _ _ _ _ HY.out, cell_of_row _ _ _ _ _ _ HY.out, cell_of_row _ _ _ _ _ _ HY.out, cell_of_row _ _ _ _ _ _ HY.out⟩
    clear HLL HMM HNX
    obtain ⟨z0, z1, z2, z3, z4, z5⟩ := cells6 (show w1.heap[w.heap.size]? = some (.cells #[.int .i64 0, .int .i64 0, .int .u64 0, .string ⟨#[]⟩, .slice none 0 0, .slice none 0 0] 27 (0, 0)) from HVB.out.z)
    have fz : ∀ i, w1.frozen? ⟨w.heap.size, i, none⟩ = false := fun i => frozen_of_row _ _ _ _ _ HVB.out.z
    have fz0 := fz 0
    have fz1 := fz 1
    have fz2 := fz 2
    have fz3 := fz 3
    have fz4 := fz 4
    have fz5 := fz 5
    clear fz
    go_wp2_with fail
    (refine bodyPost_ret (v := .agg #[.int .i64 1, .int .i64 0, .int .u64 0, .string ⟨#[]⟩, .slice none 0 0, .slice none 0 0]) (by simp [results, Tryz.results30, go_sem, *]) rfl ?_)
    obtain ⟨q1, q2, q3⟩ := HVB.out.fin (.int .i64 1) (.int .i64 0) (.int .u64 0) (.string ⟨#[]⟩) (.slice none 0 0) (.slice none 0 0)
    rw [HGD.out, if_neg (by rw [HK.out]; decide)]
    refine ⟨q2, .mk 1 0 0 [] [] [], _, rfl, rleaf_fresh _ _ _ _ _ _, ?_⟩
    cases hq : nextP s t with
    | error y =>
      rw [hq] at q3
      exact ⟨_, q3⟩
    | ok t1 =>
      rw [hq] at q3
      dsimp only
      refine ⟨?_, q3⟩
      unfold leafP
      rw [HK.out]
      rfl
  · have HK := Lib.hid hk
    rw [hk] at c1 HPRE
    clear hk
    unfold strV at c0 c6 HPRE
    go_enter Tryz.func30, Tryz.ntmps30
    go_upto_region 12 with fail
    refine wp_named (fun wx => VB w R s (many + 1) (.ok t) wx ∧ wx.heap[w.heap.size + 1]? = some (.cells #[.int .i64 8, .int .i64 t.from_, .int .i64 t.to_, .int .i64 t.n, .int .u64 t.u, .string ⟨t.text.toArray⟩] 64 (0, 0))) HPRE.out ?_
    clear HPRE c0 c1 c2 c3 c4 c5 c6 c7 c8 c9 f7 q1 hmz hdz
    rintro wx ⟨hvb, hy⟩
    have HVB := Lib.hid hvb
    have HY := Lib.hid hy
    clear hvb hy
    go_wp2_with fail
    refine (HN.out wx HVB.out.s).mono ?_
    rintro o w1 ⟨rfl, hs, ht⟩
    rw [HNX.out] at hs
    have hvb1 := HVB.out.step hs ht
    have hy1 := (ht.block _ (Array.getElem?_eq_some_iff.1 HY.out).1 (by have := HVB.out.l; simp; omega)).trans HY.out
    clear HVB HY hs ht HN
    have HVB := Lib.hid hvb1
    have HY := Lib.hid hy1
    clear hvb1 hy1
    obtain ⟨y0, y1, y2, y3, y4, y5⟩ : w1.cell? ⟨w.heap.size + 1, 0, none⟩ = some (.int .i64 8) ∧ w1.cell? ⟨w.heap.size + 1, 1, none⟩ = some (.int .i64 t.from_) ∧ w1.cell? ⟨w.heap.size + 1, 2, none⟩ = some (.int .i64 t.to_) ∧ w1.cell? ⟨w.heap.size + 1, 3, none⟩ = some (.int .i64 t.n) ∧ w1.cell? ⟨w.heap.size + 1, 4, none⟩ = some (.int .u64 t.u) ∧ w1.cell? ⟨w.heap.size + 1, 5, none⟩ = some (.string ⟨t.text.toArray⟩) := ⟨cell_of_row _ _ _ _ _ _ HY.out, cell_of_row _ _ _ _ _ _ HY.out, cell_of_row _ _ _ _ _ _ HY.out, cell_of_row _ _ _ _ _ _ HY.out, cell_of_row _ _ _ _ _ _ HY.out, cell_of_row _ _ _ _ _ _ HY.out⟩
    clear HLL HMM HNX
    obtain ⟨z0, z1, z2, z3, z4, z5⟩ := cells6 (show w1.heap[w.heap.size]? = some (.cells #[.int .i64 0, .int .i64 0, .int .u64 0, .string ⟨#[]⟩, .slice none 0 0, .slice none 0 0] 27 (0, 0)) from HVB.out.z)
    have fz : ∀ i, w1.frozen? ⟨w.heap.size, i, none⟩ = false := fun i => frozen_of_row _ _ _ _ _ HVB.out.z
    have fz0 := fz 0
    have fz1 := fz 1
    have fz2 := fz 2
    have fz3 := fz 3
    have fz4 := fz 4
    have fz5 := fz 5
    clear fz
    go_wp2_with fail
    (refine bodyPost_ret (v := .agg #[.int .i64 2, .int .i64 0, .int .u64 0, .string ⟨#[]⟩, .slice none 0 0, .slice none 0 0]) (by simp [results, Tryz.results30, go_sem, *]) rfl ?_)
    obtain ⟨q1, q2, q3⟩ := HVB.out.fin (.int .i64 2) (.int .i64 0) (.int .u64 0) (.string ⟨#[]⟩) (.slice none 0 0) (.slice none 0 0)
    rw [HGD.out, if_neg (by rw [HK.out]; decide)]
    refine ⟨q2, .mk 2 0 0 [] [] [], _, rfl, rleaf_fresh _ _ _ _ _ _, ?_⟩
    cases hq : nextP s t with
    | error y =>
      rw [hq] at q3
      exact ⟨_, q3⟩
    | ok t1 =>
      rw [hq] at q3
      dsimp only
      refine ⟨?_, q3⟩
      unfold leafP
      rw [HK.out]
      rfl
  · have HK := Lib.hid hk
    rw [hk] at c1 HPRE
    clear hk
    unfold strV at c0 c6 HPRE
    go_enter Tryz.func30, Tryz.ntmps30
    go_upto_region 12 with fail
    refine wp_named (fun wx => VB w R s (many + 1) (.ok t) wx ∧ wx.heap[w.heap.size + 1]? = some (.cells #[.int .i64 9, .int .i64 t.from_, .int .i64 t.to_, .int .i64 t.n, .int .u64 t.u, .string ⟨t.text.toArray⟩] 64 (0, 0))) HPRE.out ?_
    clear HPRE c0 c1 c2 c3 c4 c5 c6 c7 c8 c9 f7 q1 hmz hdz
    rintro wx ⟨hvb, hy⟩
    have HVB := Lib.hid hvb
    have HY := Lib.hid hy
    clear hvb hy
    go_wp2_with fail
    refine (HN.out wx HVB.out.s).mono ?_
    rintro o w1 ⟨rfl, hs, ht⟩
    rw [HNX.out] at hs
    have hvb1 := HVB.out.step hs ht
    have hy1 := (ht.block _ (Array.getElem?_eq_some_iff.1 HY.out).1 (by have := HVB.out.l; simp; omega)).trans HY.out
    clear HVB HY hs ht HN
    have HVB := Lib.hid hvb1
    have HY := Lib.hid hy1
    clear hvb1 hy1
    obtain ⟨y0, y1, y2, y3, y4, y5⟩ : w1.cell? ⟨w.heap.size + 1, 0, none⟩ = some (.int .i64 9) ∧ w1.cell? ⟨w.heap.size + 1, 1, none⟩ = some (.int .i64 t.from_) ∧ w1.cell? ⟨w.heap.size + 1, 2, none⟩ = some (.int .i64 t.to_) ∧ w1.cell? ⟨w.heap.size + 1, 3, none⟩ = some (.int .i64 t.n) ∧ w1.cell? ⟨w.heap.size + 1, 4, none⟩ = some (.int .u64 t.u) ∧ w1.cell? ⟨w.heap.size + 1, 5, none⟩ = some (.string ⟨t.text.toArray⟩) := ⟨cell_of_row _ _ _ _ _ _ HY.out, cell_of_row _ _ _ _ _ _ HY.out, cell_of_row _ _ _ _ _ _ HY.out, cell_of_row _ _ _ _ _ _ HY.out, cell_of_row _ _ _ _ _ _ HY.out, cell_of_row _ _ _ _ _ _ HY.out⟩
    clear HLL HMM HNX
    obtain ⟨z0, z1, z2, z3, z4, z5⟩ := cells6 (show w1.heap[w.heap.size]? = some (.cells #[.int .i64 0, .int .i64 0, .int .u64 0, .string ⟨#[]⟩, .slice none 0 0, .slice none 0 0] 27 (0, 0)) from HVB.out.z)
    have fz : ∀ i, w1.frozen? ⟨w.heap.size, i, none⟩ = false := fun i => frozen_of_row _ _ _ _ _ HVB.out.z
    have fz0 := fz 0
    have fz1 := fz 1
    have fz2 := fz 2
    have fz3 := fz 3
    have fz4 := fz 4
    have fz5 := fz 5
    clear fz
    go_wp2_with fail
    (refine bodyPost_ret (v := .agg #[.int .i64 2, .int .i64 1, .int .u64 0, .string ⟨#[]⟩, .slice none 0 0, .slice none 0 0]) (by simp [results, Tryz.results30, go_sem, *]) rfl ?_)
    obtain ⟨q1, q2, q3⟩ := HVB.out.fin (.int .i64 2) (.int .i64 1) (.int .u64 0) (.string ⟨#[]⟩) (.slice none 0 0) (.slice none 0 0)
    rw [HGD.out, if_neg (by rw [HK.out]; decide)]
    refine ⟨q2, .mk 2 1 0 [] [] [], _, rfl, rleaf_fresh _ _ _ _ _ _, ?_⟩
    cases hq : nextP s t with
    | error y =>
      rw [hq] at q3
      exact ⟨_, q3⟩
    | ok t1 =>
      rw [hq] at q3
      dsimp only
      refine ⟨?_, q3⟩
      unfold leafP
      rw [HK.out]
      rfl
  · have HK := Lib.hid hk
    rw [hk] at c1 HPRE
    clear hk
    unfold strV at c0 c6 HPRE
    go_enter Tryz.func30, Tryz.ntmps30
    go_upto_region 12 with fail
    refine wp_named (fun wx => VB w R s (many + 1) (.ok t) wx ∧ wx.heap[w.heap.size + 1]? = some (.cells #[.int .i64 10, .int .i64 t.from_, .int .i64 t.to_, .int .i64 t.n, .int .u64 t.u, .string ⟨t.text.toArray⟩] 64 (0, 0))) HPRE.out ?_
    clear HPRE c0 c1 c2 c3 c4 c5 c6 c7 c8 c9 f7 q1 hmz hdz
    rintro wx ⟨hvb, hy⟩
    have HVB := Lib.hid hvb
    have HY := Lib.hid hy
    clear hvb hy
    go_wp2_with fail
    refine (HN.out wx HVB.out.s).mono ?_
    rintro o w1 ⟨rfl, hs, ht⟩
    rw [HNX.out] at hs
    have hvb1 := HVB.out.step hs ht
    have hy1 := (ht.block _ (Array.getElem?_eq_some_iff.1 HY.out).1 (by have := HVB.out.l; simp; omega)).trans HY.out
    clear HVB HY hs ht HN
    have HVB := Lib.hid hvb1
    have HY := Lib.hid hy1
    clear hvb1 hy1
    obtain ⟨y0, y1, y2, y3, y4, y5⟩ : w1.cell? ⟨w.heap.size + 1, 0, none⟩ = some (.int .i64 10) ∧ w1.cell? ⟨w.heap.size + 1, 1, none⟩ = some (.int .i64 t.from_) ∧ w1.cell? ⟨w.heap.size + 1, 2, none⟩ = some (.int .i64 t.to_) ∧ w1.cell? ⟨w.heap.size + 1, 3, none⟩ = some (.int .i64 t.n) ∧ w1.cell? ⟨w.heap.size + 1, 4, none⟩ = some (.int .u64 t.u) ∧ w1.cell? ⟨w.heap.size + 1, 5, none⟩ = some (.string ⟨t.text.toArray⟩) := ⟨cell_of_row _ _ _ _ _ _ HY.out, cell_of_row _ _ _ _ _ _ HY.out, cell_of_row _ _ _ _ _ _ HY.out, cell_of_row _ _ _ _ _ _ HY.out, cell_of_row _ _ _ _ _ _ HY.out, cell_of_row _ _ _ _ _ _ HY.out⟩
    clear HLL HMM HNX
    obtain ⟨z0, z1, z2, z3, z4, z5⟩ := cells6 (show w1.heap[w.heap.size]? = some (.cells #[.int .i64 0, .int .i64 0, .int .u64 0, .string ⟨#[]⟩, .slice none 0 0, .slice none 0 0] 27 (0, 0)) from HVB.out.z)
    have fz : ∀ i, w1.frozen? ⟨w.heap.size, i, none⟩ = false := fun i => frozen_of_row _ _ _ _ _ HVB.out.z
    have fz0 := fz 0
    have fz1 := fz 1
    have fz2 := fz 2
    have fz3 := fz 3
    have fz4 := fz 4
    have fz5 := fz 5
    clear fz
    go_wp2_with fail
    (refine bodyPost_ret (v := .agg #[.int .i64 3, .int .i64 t.n, .int .u64 0, .string ⟨#[]⟩, .slice none 0 0, .slice none 0 0]) (by simp [results, Tryz.results30, go_sem, *]) rfl ?_)
    obtain ⟨q1, q2, q3⟩ := HVB.out.fin (.int .i64 3) (.int .i64 t.n) (.int .u64 0) (.string ⟨#[]⟩) (.slice none 0 0) (.slice none 0 0)
    rw [HGD.out, if_neg (by rw [HK.out]; decide)]
    refine ⟨q2, .mk 3 t.n 0 [] [] [], _, rfl, rleaf_fresh _ _ _ _ _ _, ?_⟩
    cases hq : nextP s t with
    | error y =>
      rw [hq] at q3
      exact ⟨_, q3⟩
    | ok t1 =>
      rw [hq] at q3
      dsimp only
      refine ⟨?_, q3⟩
      unfold leafP
      rw [HK.out]
      rfl
  · have HK := Lib.hid hk
    rw [hk] at c1 HPRE
    clear hk
    unfold strV at c0 c6 HPRE
    go_enter Tryz.func30, Tryz.ntmps30
    go_upto_region 12 with fail
    refine wp_named (fun wx => VB w R s (many + 1) (.ok t) wx ∧ wx.heap[w.heap.size + 1]? = some (.cells #[.int .i64 11, .int .i64 t.from_, .int .i64 t.to_, .int .i64 t.n, .int .u64 t.u, .string ⟨t.text.toArray⟩] 64 (0, 0))) HPRE.out ?_
    clear HPRE c0 c1 c2 c3 c4 c5 c6 c7 c8 c9 f7 q1 hmz hdz
    rintro wx ⟨hvb, hy⟩
    have HVB := Lib.hid hvb
    have HY := Lib.hid hy
    clear hvb hy
    go_wp2_with fail
    refine (HN.out wx HVB.out.s).mono ?_
    rintro o w1 ⟨rfl, hs, ht⟩
    rw [HNX.out] at hs
    have hvb1 := HVB.out.step hs ht
    have hy1 := (ht.block _ (Array.getElem?_eq_some_iff.1 HY.out).1 (by have := HVB.out.l; simp; omega)).trans HY.out
    clear HVB HY hs ht HN
    have HVB := Lib.hid hvb1
    have HY := Lib.hid hy1
    clear hvb1 hy1
    obtain ⟨y0, y1, y2, y3, y4, y5⟩ : w1.cell? ⟨w.heap.size + 1, 0, none⟩ = some (.int .i64 11) ∧ w1.cell? ⟨w.heap.size + 1, 1, none⟩ = some (.int .i64 t.from_) ∧ w1.cell? ⟨w.heap.size + 1, 2, none⟩ = some (.int .i64 t.to_) ∧ w1.cell? ⟨w.heap.size + 1, 3, none⟩ = some (.int .i64 t.n) ∧ w1.cell? ⟨w.heap.size + 1, 4, none⟩ = some (.int .u64 t.u) ∧ w1.cell? ⟨w.heap.size + 1, 5, none⟩ = some (.string ⟨t.text.toArray⟩) := ⟨cell_of_row _ _ _ _ _ _ HY.out, cell_of_row _ _ _ _ _ _ HY.out, cell_of_row _ _ _ _ _ _ HY.out, cell_of_row _ _ _ _ _ _ HY.out, cell_of_row _ _ _ _ _ _ HY.out, cell_of_row _ _ _ _ _ _ HY.out⟩
    clear HLL HMM HNX
    obtain ⟨z0, z1, z2, z3, z4, z5⟩ := cells6 (show w1.heap[w.heap.size]? = some (.cells #[.int .i64 0, .int .i64 0, .int .u64 0, .string ⟨#[]⟩, .slice none 0 0, .slice none 0 0] 27 (0, 0)) from HVB.out.z)
    have fz : ∀ i, w1.frozen? ⟨w.heap.size, i, none⟩ = false := fun i => frozen_of_row _ _ _ _ _ HVB.out.z
    have fz0 := fz 0
    have fz1 := fz 1
    have fz2 := fz 2
    have fz3 := fz 3
    have fz4 := fz 4
    have fz5 := fz 5
    clear fz
    go_wp2_with fail
    (refine bodyPost_ret (v := .agg #[.int .i64 4, .int .i64 0, .int .u64 t.u, .string ⟨#[]⟩, .slice none 0 0, .slice none 0 0]) (by simp [results, Tryz.results30, go_sem, *]) rfl ?_)
    obtain ⟨q1, q2, q3⟩ := HVB.out.fin (.int .i64 4) (.int .i64 0) (.int .u64 t.u) (.string ⟨#[]⟩) (.slice none 0 0) (.slice none 0 0)
    rw [HGD.out, if_neg (by rw [HK.out]; decide)]
    refine ⟨q2, .mk 4 0 t.u [] [] [], _, rfl, rleaf_fresh _ _ _ _ _ _, ?_⟩
    cases hq : nextP s t with
    | error y =>
      rw [hq] at q3
      exact ⟨_, q3⟩
    | ok t1 =>
      rw [hq] at q3
      dsimp only
      refine ⟨?_, q3⟩
      unfold leafP
      rw [HK.out]
      rfl
  · have HK := Lib.hid hk
    rw [hk] at c1 HPRE
    clear hk
    unfold strV at c0 c6 HPRE
    go_enter Tryz.func30, Tryz.ntmps30
    go_upto_region 12 with fail
    refine wp_named (fun wx => VB w R s (many + 1) (.ok t) wx ∧ wx.heap[w.heap.size + 1]? = some (.cells #[.int .i64 12, .int .i64 t.from_, .int .i64 t.to_, .int .i64 t.n, .int .u64 t.u, .string ⟨t.text.toArray⟩] 64 (0, 0))) HPRE.out ?_
    clear HPRE c0 c1 c2 c3 c4 c5 c6 c7 c8 c9 f7 q1 hmz hdz
    rintro wx ⟨hvb, hy⟩
    have HVB := Lib.hid hvb
    have HY := Lib.hid hy
    clear hvb hy
    go_wp2_with fail
    refine (HN.out wx HVB.out.s).mono ?_
    rintro o w1 ⟨rfl, hs, ht⟩
    rw [HNX.out] at hs
    have hvb1 := HVB.out.step hs ht
    have hy1 := (ht.block _ (Array.getElem?_eq_some_iff.1 HY.out).1 (by have := HVB.out.l; simp; omega)).trans HY.out
    clear HVB HY hs ht HN
    have HVB := Lib.hid hvb1
    have HY := Lib.hid hy1
    clear hvb1 hy1
    obtain ⟨y0, y1, y2, y3, y4, y5⟩ : w1.cell? ⟨w.heap.size + 1, 0, none⟩ = some (.int .i64 12) ∧ w1.cell? ⟨w.heap.size + 1, 1, none⟩ = some (.int .i64 t.from_) ∧ w1.cell? ⟨w.heap.size + 1, 2, none⟩ = some (.int .i64 t.to_) ∧ w1.cell? ⟨w.heap.size + 1, 3, none⟩ = some (.int .i64 t.n) ∧ w1.cell? ⟨w.heap.size + 1, 4, none⟩ = some (.int .u64 t.u) ∧ w1.cell? ⟨w.heap.size + 1, 5, none⟩ = some (.string ⟨t.text.toArray⟩) := ⟨cell_of_row _ _ _ _ _ _ HY.out, cell_of_row _ _ _ _ _ _ HY.out, cell_of_row _ _ _ _ _ _ HY.out, cell_of_row _ _ _ _ _ _ HY.out, cell_of_row _ _ _ _ _ _ HY.out, cell_of_row _ _ _ _ _ _ HY.out⟩
    clear HLL HMM HNX
    obtain ⟨z0, z1, z2, z3, z4, z5⟩ := cells6 (show w1.heap[w.heap.size]? = some (.cells #[.int .i64 0, .int .i64 0, .int .u64 0, .string ⟨#[]⟩, .slice none 0 0, .slice none 0 0] 27 (0, 0)) from HVB.out.z)
    have fz : ∀ i, w1.frozen? ⟨w.heap.size, i, none⟩ = false := fun i => frozen_of_row _ _ _ _ _ HVB.out.z
    have fz0 := fz 0
    have fz1 := fz 1
    have fz2 := fz 2
    have fz3 := fz 3
    have fz4 := fz 4
    have fz5 := fz 5
    clear fz
    go_wp2_with fail
    (refine bodyPost_ret (v := .agg #[.int .i64 6, .int .i64 0, .int .u64 0, .string ⟨t.text.toArray⟩, .slice none 0 0, .slice none 0 0]) (by simp [results, Tryz.results30, go_sem, *]) rfl ?_)
    obtain ⟨q1, q2, q3⟩ := HVB.out.fin (.int .i64 6) (.int .i64 0) (.int .u64 0) (.string ⟨t.text.toArray⟩) (.slice none 0 0) (.slice none 0 0)
    rw [HGD.out, if_neg (by rw [HK.out]; decide)]
    refine ⟨q2, .mk 6 0 0 t.text [] [], _, rfl, rleaf_fresh _ _ _ _ _ _, ?_⟩
    cases hq : nextP s t with
    | error y =>
      rw [hq] at q3
      exact ⟨_, q3⟩
    | ok t1 =>
      rw [hq] at q3
      dsimp only
      refine ⟨?_, q3⟩
      unfold leafP
      rw [HK.out]
      rfl
theorem rvalue_step (s : List UInt8) (hl : s.length ≤ 1073741824) (g : Nat) (HL : RListC s g) (HM : RMembC s g) : RValC s (g + 1) := by
  intro deep t many R w h hm0 hm hf hd0 hd
  by_cases hb : bgB t.kind = false
  · exact rvalue_bad s g deep t many R w h (.inl hb)
  by_cases h1 : 4096 ≤ many
  · exact rvalue_bad s g deep t many R w h (.inr (.inl h1))
  by_cases h2 : 64 ≤ deep
  · exact rvalue_bad s g deep t many R w h (.inr (.inr h2))
  exact rvalue_good s hl g HL HM deep t many R w h hm0 hf hd0 (by simpa using hb) h1 h2
end
section
open Go.RowKit Go.Shelf
/-- What the reference's loops hold. -/
def LRel (s : List UInt8) (g : Nat) (mp : Bool) (dp : Int) (res : ER) (x : PE Tok) (m : Int) (ks : List (List UInt8)) (L : List DT) : Prop := match x with
  | .ok t => 0 ≤ m ∧ m ≤ 4096 ∧ (L.length : Int) ≤ m ∧ ∃ g' : Nat, g' ≤ g ∧ 2 * (4096 - m) + 2 ≤ (g' : Int) ∧ (if t.kind = lastP mp then (.error (t.from_, 100) : ER) else eachP s g' mp (dp + 1) t m ks L) = res
  | .error y => res = .error y
/-- One value of a loop: what it says of the whole. -/
def OneRel (s : List UInt8) (g : Nat) (mp : Bool) (dp : Int) (res : ER) (r : VR) (m : Int) (ks1 : List (List UInt8)) (L : List DT) : Prop := match r with
  | .error y => res = .error y
  | .ok (T, t2, m1) => m < m1 ∧ m1 ≤ 4096 ∧ (t2.kind = 5 → LRel s g mp dp res (nextP s t2) m1 ks1 (L ++ [T])) ∧
      (t2.kind ≠ 5 → match mustS s (.ok t2) (lastP mp) with
        | .error y => res = .error y
        | .ok t3 => res = .ok (ks1, L ++ [T], t3, m1))
theorem one_rel {s : List UInt8} {g g1 : Nat} {mp : Bool} {dp m : Int} {t t1 : Tok} {ks ks1 : List (List UInt8)} {L : List DT} {res : ER} (hg : g1 + 1 ≤ g) (hm0 : 0 ≤ m) (hLm : (L.length : Int) ≤ m) (hf : 2 * (4096 - m) + 2 ≤ ((g1 + 1 : Nat) : Int)) (h : eachP s (g1 + 1) mp (dp + 1) t m ks L = res) (hk : t.kind ≠ lastP mp) (hh : headP s mp ks t = .ok (ks1, t1)) :
    OneRel s g mp dp res (valP s g1 (dp + 1) t1 m) m ks1 L := by
  have hgo := many_go h hk hh
  unfold OneRel
  cases hv : valP s g1 (dp + 1) t1 m with
  | error y => rw [hv] at hgo; exact hgo
  | ok p =>
    obtain ⟨T, t2, m1⟩ := p
    rw [hv] at hgo
    dsimp only at hgo ⊢
    obtain ⟨a1, a2⟩ := (val_more s g1).1 _ _ _ _ _ _ hv
    refine ⟨a1, a2, fun h5 => ?_, hgo.2⟩
    have h1 := hgo.1 h5
    unfold LRel
    cases hn : nextP s t2 with
    | error y => rw [hn] at h1; exact h1
    | ok t3 =>
      rw [hn] at h1
      push_cast at hf
      exact ⟨by omega, a2, by rw [List.length_append, List.length_singleton]; push_cast; omega, g1, by omega, by omega, h1⟩
theorem Tch.grown2 {B : Nat} {T : List Nat} {a w w3 : World} (h : Tch B T a w) {b : Option Nat} (hg : w.grownBy w3 b) (hB : B ≤ w.heap.size) (hb : ∀ k, b = some k → B ≤ k) : Tch B T a w3 :=
  h.trans ⟨hg.os, hg.tape, hg.output, hg.size, fun i hi _ => hg.block i (by omega) fun e => by have := hb i e.symm; omega⟩
set_option maxHeartbeats 16000000 in
set_option maxRecDepth 100000 in
theorem rlist_any (s : List UInt8) (hl : s.length ≤ 1073741824) (g : Nat) (HV : ∀ g', g' < g → RValC s g') : RListC s g := by
  intro dp x many R w h hm0 hm hf hd0 hd
  have hR := h.lt
  have HI := Lib.hid (risr_any s x many R 4 w h)
  by_cases hi : isP x 4 = true
  · obtain ⟨t, rfl⟩ : ∃ t, x = .ok t := by
      cases x with
      | ok t => exact ⟨t, rfl⟩
      | error y => cases hi
    have hk : t.kind = 4 := by simpa [isP] using hi
    have HN := Lib.hid (rnextr_any s (.ok t) many R w h hl)
    rw [hi] at HI
    have HEQ := Lib.hid (show allR s g false dp many (.ok t) = shutP s [] [] t many by
      obtain ⟨g, rfl⟩ : ∃ k, g = k + 1 := ⟨g - 1, by omega⟩
      unfold allR
      dsimp only
      rw [eachP, if_pos (show t.kind = lastP false from hk)])
    clear h hi hk hf HV
    go_enter Tryz.func58, Tryz.ntmps58
    go_wp2_with fail
    refine HI.out.mono ?_
    rintro o w1 ⟨rfl, rfl⟩
    go_wp2_with fail
    refine HN.out.mono ?_
    rintro o w2 ⟨rfl, hs, ht⟩
    have HS2 := Lib.hid hs
    have HT2 := Lib.hid ht
    clear hs ht HN HI
    go_wp2_with fail
    go_ret
    refine ⟨HT2.out, [], _, [], [], rfl, kids_nil _ _, ?_⟩
    rw [HEQ.out]
    unfold shutP
    have hs := HS2.out
    unfold nextS at hs
    dsimp only at hs
    cases hq : nextP s t with
    | error y => rw [hq] at hs; exact ⟨_, hs⟩
    | ok t1 => rw [hq] at hs; exact ⟨rfl, hs⟩
  · have hi' : isP x 4 = false := by simpa using hi
    rw [hi'] at HI
    have HREL : Hid (LRel s g false dp (allR s g false dp many x) x many [] []) := Lib.hid (by
      unfold LRel allR
      cases x with
      | error y => rfl
      | ok t =>
        refine ⟨hm0, hm, by simp; omega, g, Nat.le_refl _, hf, ?_⟩
        dsimp only
        rw [if_neg (by simpa [isP, lastP] using hi')])
    have HH := Lib.hid h
    have HVV := Lib.hid HV
    generalize allR s g false dp many x = res at *
    obtain ⟨i0, hii, hz0, hz1, hz2⟩ := info_parts nodeInfo
    clear h hi hi' HV hf hm0 hm
    have HDD := Lib.hid (And.intro hd0 hd)
    have q1 : IntKind.i64.wrap (dp + 1) = dp + 1 := IntWalk.i64_in _ (by omega)
    clear hd0 hd
    go_enter Tryz.func58, Tryz.ntmps58
    go_wp2_with fail
    refine HI.out.mono ?_
    rintro o w1 ⟨rfl, rfl⟩
    go_wp2_with fail
    go_loopw [5] (fun v wr => ∃ (x : PE Tok) (m : Int) (L : List DT) (xs : List Value) (bl : List Nat), Kids wr w.heap.size [] L (.slice none 0 0) v xs bl ∧ RSt wr R s m x ∧ Tch w.heap.size [R] w wr ∧ w.heap.size ≤ wr.heap.size ∧ Hid (LRel s g false dp res x m [] L)) (fun _ wr => 4096 - (intOf ((wr.cell? ⟨R, 7, none⟩).getD undef)).toNat)
    case atStart => exact ⟨x, many, [], [], [], kids_nil _ _, HH.out, Tch.refl _ _ _, Nat.le_refl _, HREL⟩
    case round =>
      rename_i wr hK0
      clear HREL HH HI
      obtain ⟨x, m, L, xs, bl, hK, hS, hT, hsz, hLR⟩ := hrel
      have HT := Lib.hid hT
      have HK := Lib.hid hK
      have HS := Lib.hid hS
      cases x with
      | error y =>
        obtain ⟨h0, t, hr⟩ := hS
        obtain ⟨-, -, -, -, -, -, -, -, -, c9, -⟩ := hr.cells
        have ez : (y.2 == 0) = false := by simp [h0]
        obtain ⟨A, c, rfl⟩ := owns_ptr hK.r
        have HRES := Lib.hid (show res = .error y from hLR.out)
        clear hr h0 hK hT hLR
        obtain ⟨y1, y2⟩ := y
        dsimp only at ez c9
        go_wp2_with fail
        go_ret
        refine ⟨HT.out.touch, L, _, xs, bl, rfl, HK.out, ?_⟩
        rw [HRES.out]
        exact ⟨m, HS.out⟩
      | ok t =>
        obtain ⟨hm0, hm, hLm, g1, hg1, hf, hE⟩ := hLR.out
        obtain ⟨g1, rfl⟩ : ∃ k, g1 = k + 1 := ⟨g1 - 1, by omega⟩
        have hr : RRow wr R s t m 0 0 := hS
        obtain ⟨-, -, -, -, -, -, -, c7, -, c9, -⟩ := hr.cells
        have HVX := Lib.hid (HVV.out g1 (by omega) (dp + 1) t m R wr hS hm0 hm (by push_cast at hf; omega) (by have := HDD.out.1; omega) (by have := HDD.out.2; omega))
        have HONE : Hid (OneRel s g false dp res (valP s g1 (dp + 1) t m) m [] L) := Lib.hid (by
          by_cases hk : t.kind = 4
          · rw [if_pos (show t.kind = lastP false from hk)] at hE
            rw [val_shut hk (by push_cast at hf; omega)]
            exact hE.symm
          · rw [if_neg (show ¬ t.kind = lastP false from hk)] at hE
            exact one_rel hg1 hm0 hLm hf hE hk rfl)
        generalize valP s g1 (dp + 1) t m = r at *
        obtain ⟨A3, c3, rfl⟩ := owns_ptr hK.r
        have H63 : Hid (L.length + 1 ≤ maxLen) := Lib.hid (by unfold maxLen; omega)
        have HBY : Hid ((L.length + 1) * 88 ≤ 140737488355328) := Lib.hid (by omega)
        have HLT := Lib.hid (And.intro hm0 hm)
        clear hr hE hf hm0 hm hLm hg1 hT hK hLR hS
        go_upto_region 7 with (first | (go_at_call 30; refine HVX.out.mono ?_; clear HVX; rintro e w1 ⟨ht1, T, v1, rfl, ⟨y0, y1, y2, y3, y4, y5, bs, rfl, hn1, hnd1, hge1⟩, hpo1⟩; obtain ⟨kd1, nn1, uu1, s1, B1, m1, d1, B2, m2, d2, rfl, rfl, rfl, rfl, rfl, rfl⟩ := hn1.form2; have hn1 := Lib.hid hn1; have hge1 := Lib.hid hge1; have HT1 := Lib.hid ht1; have HPO := Lib.hid hpo1; clear ht1 hpo1) | (at_builtin; refine wpList_append_where (P := Tryz.prog) _ rfl (.tmp 16) (.tmp 21) 25 rfl 27 i0 (.agg #[.int .i64 0, .int .i64 0, .int .u64 0, .string ⟨#[]⟩, .slice none 0 0, .slice none 0 0]) 6 88 Tryz.underlying25 hii hz0 hz1 hz2 rfl (by decide) (.slice A3 L.length c3) L.length xs rfl (own_below (HK.out.touch HT1.out (by have := HS.out.lt; omega)).r ((Below.refl _ _).alloc (Nat.le_refl _) _)) ⟨w1.heap.size, 0, none⟩ 1 1 [.int .i64 kd1, .int .i64 nn1, .int .u64 uu1, .string s1, .slice B1 m1 d1, .slice B2 m2 d2] rfl rfl (row_at (heap_alloc_new _ _)) six_one H63.out HBY.out ?_; intro v' w3 ho hg hwh; obtain ⟨A', n', c', rfl⟩ := owns_sl ho))
        have hal := (Below.refl w1.heap.size w1).alloc (Nat.le_refl _) (.cells #[.int .i64 kd1, .int .i64 nn1, .int .u64 uu1, .string s1, .slice B1 m1 d1, .slice B2 m2 d2] 27)
        have hfin := Kids.push (lk := R) HK.out hR HT1.out hn1.out hnd1 hge1.out hsz hal hg ho hwh
        have hsz1 : wr.heap.size ≤ w1.heap.size := HT1.out.size
        have hsz2 : (w1.alloc (.cells #[.int .i64 kd1, .int .i64 nn1, .int .u64 uu1, .string s1, .slice B1 m1 d1, .slice B2 m2 d2] 27)).heap.size = w1.heap.size + 1 := World.size_alloc _ _
        have hTch : Tch w.heap.size [R] w w3 := ((HT.out.trans (HT1.out.tch hsz)).trans ((Touch.quiet hal).tch (by omega))).grown2 hg (by omega) (fun k hk => HK.out.ge k (by simp [mem_blk, hk]))
        have hlt1 : R < w1.heap.size := by have := HS.out.lt; omega
        have hRow : w3.heap[R]? = w1.heap[R]? := (hg.block R (by omega) (fun e => by have := HK.out.ge R (by simp [mem_blk.2 e.symm]); omega)).trans (hal.block R hlt1)
        have hg3 := hg.size
        have hrel : ∃ (x1 : PE Tok) (m1 : Int), RSt w3 R s m1 x1 ∧ (isP x1 5 = true → m < m1 ∧ m1 ≤ 4096 ∧ LRel s g false dp res (nextS s x1) m1 [] (L ++ [T])) ∧ (isP x1 5 = false → match mustS s x1 4 with
            | .error y => res = .error y
            | .ok t3 => res = .ok ([], L ++ [T], t3, m1)) := by
          have hp := HPO.out
          have ho := HONE.out
          cases r with
          | error y =>
            obtain ⟨m1, hs1⟩ := hp
            exact ⟨.error y, m1, hs1.same hRow, fun h => (by cases h), fun _ => ho⟩
          | ok q =>
            obtain ⟨T', t2, m1⟩ := q
            obtain ⟨rfl, hs1⟩ := hp
            obtain ⟨a1, a2, a3, a4⟩ := ho
            exact ⟨.ok t2, m1, RSt.same hs1 hRow, fun h => ⟨a1, a2, a3 (by simpa [isP] using h)⟩, fun h => a4 (by simpa [isP] using h)⟩
        obtain ⟨x1, mm, hs1, hA, hB⟩ := hrel
        refine wp_named (fun wn => Kids wn w.heap.size [] (L ++ [T]) (.slice none 0 0) (.slice A' n' c') (xs ++ [.int .i64 kd1, .int .i64 nn1, .int .u64 uu1, .string s1, .slice B1 m1 d1, .slice B2 m2 d2]) (bl ++ bs) ∧ RSt wn R s mm x1 ∧ Tch w.heap.size [R] w wn ∧ w.heap.size ≤ wn.heap.size) ⟨hfin, hs1, hTch, by omega⟩ ?_
        clear hfin hs1 hTch hg ho hwh hal hRow hsz1 hsz2 hg3 HK HS HT HT1 HPO HONE hn1 hge1 hnd1 hlt1 c9
        rintro w4 ⟨hK4, hS4, hT4, hz4⟩
        have HK4 := Lib.hid hK4
        have HS4 := Lib.hid hS4
        have HT4 := Lib.hid hT4
        have HA := Lib.hid hA
        have HB := Lib.hid hB
        have HI5 := Lib.hid (risr_any s x1 mm R 5 w4 hS4)
        clear hK4 hS4 hT4 hA hB
        cases hi5 : isP x1 5 with
        | false =>
          rw [hi5] at HI5
          have HB2 := Lib.hid (HB.out hi5)
          clear HA HB hi5
          go_wp2_with fail
          refine HI5.out.mono ?_
          rintro o w5 ⟨rfl, rfl⟩
          go_wp2_with fail
          refine (rmust_any s x1 mm R 4 w4 HS4.out hl).mono ?_
          rintro o w6 ⟨rfl, hs6, ht6⟩
          have HS6 := Lib.hid hs6
          have HT6 := Lib.hid ht6
          clear hs6 ht6 HI5
          go_wp2_with fail
          go_ret
          refine ⟨HT4.out.touch.trans HT6.out, L ++ [T], _, _, _, rfl, HK4.out.touch HT6.out hR, ?_⟩
          have hb := HB2.out
          have hs := HS6.out
          cases hq : mustS s x1 4 with
          | error y =>
            rw [hq] at hb hs
            rw [hb]
            exact ⟨_, hs⟩
          | ok t3 =>
            rw [hq] at hb hs
            rw [hb]
            exact ⟨rfl, hs⟩
        | true =>
          rw [hi5] at HI5
          have HA2 := Lib.hid (HA.out hi5)
          clear HA HB hi5
          go_wp2_with fail
          refine HI5.out.mono ?_
          rintro o w5 ⟨rfl, rfl⟩
          go_wp2_with fail
          refine (rnextr_any s x1 mm R w4 HS4.out hl).mono ?_
          rintro o w6 ⟨rfl, hs6, ht6⟩
          have HS6 := Lib.hid hs6
          have HT6 := Lib.hid ht6
          have c76 := hs6.many
          have hmeas := HA2.out.1
          have hme2 := HA2.out.2.1
          have hm00 := HLT.out.1
          clear hs6 ht6 HI5
          go_wp2_with fail
          go_roundw
          case rel => exact ⟨_, mm, L ++ [T], _, _, HK4.out.touch HT6.out hR, HS6.out, HT4.out.trans (HT6.out.tch hz4), by have := HT6.out.size; omega, Lib.hid HA2.out.2.2⟩
          case measure =>
            simp only [c76, c7, Option.getD_some, intOf]
            omega
end
end Go.Proofs.YtccmhhmdenfecaaGreatDoor
