/- The walk of accordionlaw08.PathPuts: written by wip/gen/pp.py. -/
import Derived.Test.YtlblddeemkefkaaGreatDoorSq
namespace Go.Proofs.YtlblddeemkefkaaGreatDoor
set_option linter.unusedVariables false
set_option linter.unusedSimpArgs false
set_option linter.unusedSectionVars false
section
open Go.RowKit
/-- A tree in a block. -/
def TB (w : World) (P : Nat) (D : DT) : Prop := ∃ kd nn uu s A m c A' m' c' bs, w.heap[P]? = some (.cells #[.int .i64 kd, .int .i64 nn, .int .u64 uu, .string s, .slice A m c, .slice A' m' c'] 38 (0, 0)) ∧ NRep w D [.int .i64 kd, .int .i64 nn, .int .u64 uu, .string s, .slice A m c, .slice A' m' c'] bs
theorem TB.below {w w' : World} {P : Nat} {D : DT} (h : TB w P D) (hb : Below w.heap.size w w') : TB w' P D := by
  obtain ⟨kd, nn, uu, s, A, m, c, A', m', c', bs, h1, h2⟩ := h
  exact ⟨kd, nn, uu, s, A, m, c, A', m', c', bs, below_row h1 hb, h2.below hb⟩
theorem TB.of_blk {w : World} {b : Nat} {D : DT} (h : blkT D b true w) : TB w b D := h
/-- A value is a path in a block of its own, not b. -/
def QVp (w : World) (q : List PS) (b : Nat) (v : Value) : Prop := ∃ A c, v = .slice A q.length c ∧ w.ownsRow 0 50 3 v q.length (q.flatMap stepC) ∧ v.ownBlock ≠ some b
theorem QVp.ext {w w' : World} {q : List PS} {b : Nat} {v : Value} (h : QVp w q b v) (hE : ExtB b w w') : QVp w' q b v := by
  obtain ⟨A, c, rfl, h1, h2⟩ := h
  refine ⟨A, c, rfl, own_same2 h1 fun i hi => hE.2 i ((h1.lt i (mem_blk.1 hi)).2) fun e => h2 (by rw [← e]; exact mem_blk.1 hi), h2⟩
theorem srow_qvp {w w' : World} {q : List PS} {b : Nat} {v : Value} (h : SRow w.heap.size w' v q) (hb : b < w.heap.size ∨ w'.heap.size ≤ b) : QVp w' q b v := by
  obtain ⟨A, c, rfl⟩ := owns_ptr h
  refine ⟨A, c, rfl, World.ownsRow.mono h (Nat.zero_le _), fun e => ?_⟩
  have := h.lt b e
  omega
theorem ownsRow_cap {w : World} {B : Nat} {e : TypeId} {sz n c : Nat} {A : Option Addr} {xs : List Value} (h : w.ownsRow B e sz (.slice A n c) n xs) : n ≤ c := by
  rcases h.2 with ⟨h1, h2⟩ | ⟨g, cap, cur, h1, -, -, h2, -⟩
  · cases h1; omega
  · cases h1; exact h2
theorem take_rd {w : World} {q : List PS} {A : Option Addr} {n c : Nat} (h : StepRd w (.slice A n c) q) (k : Nat) (hk : k ≤ q.length) : StepRd w (.slice A k c) (q.take k) := by
  have hlen : (q.take k).length = k := by rw [List.length_take]; omega
  have hn : n = q.length := by
    obtain ⟨A', c', h1, -⟩ := h
    injection h1
  refine ⟨A, c, by rw [hlen], by have := Rd.bound h; rw [hlen]; omega, steps_len _, ?_, fun h0 => ?_⟩
  · obtain ⟨A', c', h1, -, -, h2, -⟩ := h
    injection h1 with e1 e2 e3
    subst e1 e3
    exact h2
  · rw [hlen] at h0
    obtain ⟨b, o, rfl, hlt, hc⟩ := Rd.cells h (by omega)
    refine ⟨b, o, rfl, hlt, fun j hj => ?_⟩
    rw [hlen] at hj
    rw [hc j (by omega)]
    obtain ⟨i, r, rfl, hr⟩ : ∃ i r, j = i * 3 + r ∧ r < 3 := ⟨j / 3, j % 3, by omega, Nat.mod_lt _ (by decide)⟩
    rw [steps_at q i r (by omega) hr, steps_at (q.take k) i r (by rw [hlen]; omega) hr, List.getElem_take]
theorem opwp_ldQ {o : Oper} {a : Act} {w : World} {K : Act → World → Prop} {Q : Exit → Act → World → Prop} {x : Tmp} {p : Addr} {v : Value} (hop : o.op = .load 22 (.tmp x)) (hx : a.eval (.tmp x) = .pointer (some p)) (h : w.cell? p = some v) (hK : K (a.put o.dst v) w) : o.wp Tryz.prog a w K Q := by
  refine opwp_val (w' := w) v ?_ hK
  simp only [execOp, hop, hx]
  go_simp
theorem opwp_ia2 {o : Oper} {a : Act} {w : World} {K : Act → World → Prop} {Q : Exit → Act → World → Prop} {x : Tmp} {g k : Nat} (hop : o.op = .indexAddr 47 (.tmp x) (.const (.int .i64 (k : Nat)))) (hx : a.eval (.tmp x) = .pointer (some ⟨g, 0, none⟩)) (hk : k < 2) (hK : K (a.put o.dst (.pointer (some ⟨g, k, none⟩))) w) : o.wp Tryz.prog a w K Q := by
  refine opwp_val (w' := w) (.pointer (some ⟨g, k, none⟩)) ?_ hK
  have e : a.eval (.const (.int .i64 (k : Nat))) = .int .i64 (k : Nat) := rfl
  have h1 : (k : Int) < 2 := by omega
  obtain rfl | rfl : k = 0 ∨ k = 1 := by omega
  all_goals
    simp only [execOp, hop, hx, e]
    go_simp
theorem opwp_add1 {o : Oper} {a : Act} {w : World} {K : Act → World → Prop} {Q : Exit → Act → World → Prop} {x : Tmp} {k : Nat} (hop : o.op = .binOp .add 3 (.tmp x) (.const (.int .i64 1)) 3) (hx : a.eval (.tmp x) = .int .i64 (k : Nat)) (hk : k < 1048576) (hK : K (a.put o.dst (.int .i64 ((k + 1 : Nat) : Int))) w) : o.wp Tryz.prog a w K Q := by
  refine opwp_val (w' := w) (.int .i64 ((k + 1 : Nat) : Int)) ?_ hK
  have e : a.eval (.const (.int .i64 1)) = .int .i64 1 := rfl
  have q : IntKind.i64.wrap ((k : Int) + 1) = ((k + 1 : Nat) : Int) := by rw [IntWalk.i64_in _ (by omega)]; rfl
  simp only [execOp, hop]
  rw [hx, e]
  go_simp
set_option maxHeartbeats 2000000 in
theorem opwp_slTo {o : Oper} {a : Act} {w : World} {K : Act → World → Prop} {Q : Exit → Act → World → Prop} {x y : Tmp} {A : Option Addr} {n c k : Nat} (hop : o.op = .slice 22 (.tmp x) none (some (.tmp y)) none) (hx : a.eval (.tmp x) = .slice A n c) (hy : a.eval (.tmp y) = .int .i64 (k : Nat)) (hk0 : 0 < k) (hk : k ≤ n) (hc : n ≤ c) (hK : K (a.put o.dst (.slice A k c)) w) : o.wp Tryz.prog a w K Q := by
  refine opwp_val (w' := w) (.slice A k c) ?_ hK
  have h1 : ¬ (k : Int) < 0 := by omega
  have h2 : (k : Int) ≤ (c : Int) := by omega
  have h3 : k ≤ c := by omega
  have hy' : a.tmps[y]?.getD undef = .int .i64 (k : Nat) := by rw [← hy]; simp [Act.eval, Array.getD_eq_getD_getElem?]
  simp only [execOp, hop, hx, hy]
  go_simp
theorem opwp_neqS {o : Oper} {a : Act} {w : World} {K : Act → World → Prop} {Q : Exit → Act → World → Prop} {x y : Tmp} {a0 b0 : List UInt8} {a1 b1 : Int} {a2 b2 : Bool} (hop : o.op = .binOp .neq 50 (.tmp x) (.tmp y) 50)
    (hx : a.eval (.tmp x) = .agg #[.string ⟨a0.toArray⟩, .int .i64 a1, .bool a2]) (hy : a.eval (.tmp y) = .agg #[.string ⟨b0.toArray⟩, .int .i64 b1, .bool b2]) (hK : K (a.put o.dst (.bool (!decide ((a0, a1, a2) = (b0, b1, b2))))) w) : o.wp Tryz.prog a w K Q := by
  refine opwp_val (w' := w) (.bool (!decide ((a0, a1, a2) = (b0, b1, b2)))) ?_ hK
  have e := step_neq a0 b0 a1 b1 a2 b2 w
  clear e
  simp only [execOp, hop]
  rw [hx, hy]
  go_simp
  by_cases h0 : a0 = b0 <;> by_cases h1 : a1 = b1 <;> by_cases h2 : a2 = b2 <;> simp [h0, h1, h2]
theorem NodeErr.two {B : Nat} {X : DT} {er : Int} {e : Ending} {w' : World} (h : NodeErr B (X, er) e w') : ∃ v, e = .returned (.tuple #[v, .int .i64 er]) ∧ Fresh B w' X v := h
theorem step_cells {w : World} {p : List PS} {A : Option Addr} {n c : Nat} (h : StepRd w (.slice A n c) p) (i : Nat) (hi : i < p.length) {k0 : List UInt8} {k1 : Int} {k2 : Bool} (hk : p[i] = (k0, k1, k2)) : ∃ g o, A = some ⟨g, o, none⟩ ∧ g < w.heap.size ∧
    w.cell? ⟨g, o + i * 3, none⟩ = some (.string ⟨k0.toArray⟩) ∧ w.cell? ⟨g, o + i * 3 + 1, none⟩ = some (.int .i64 k1) ∧ w.cell? ⟨g, o + i * 3 + 2, none⟩ = some (.bool k2) := by
  obtain ⟨g, o, e, hg, hc⟩ := Rd.cells h (by omega)
  refine ⟨g, o, e, hg, ?_, ?_, ?_⟩
  · have := hc (i * 3 + 0) (by omega)
    rw [steps_at p i 0 hi (by decide), hk] at this
    exact this
  · have := hc (i * 3 + 1) (by omega)
    rw [steps_at p i 1 hi (by decide), hk, ← Nat.add_assoc] at this
    exact this
  · have := hc (i * 3 + 2) (by omega)
    rw [steps_at p i 2 hi (by decide), hk, ← Nat.add_assoc] at this
    exact this
theorem take_lt {p : List PS} {i : Nat} (h : i < p.length) : (p.take (i + 1)).length = i + 1 := by rw [List.length_take]; omega
theorem pair_eq {T T' : DT} {x x' : Int} (h : (T, x) = (T', x')) : T = T' ∧ x = x' := by cases h; exact ⟨rfl, rfl⟩
def pp1 (P3 P4 : Nat) (kdx nnx uux : Int) (sx : ByteArray) (Ax : Option Addr) (mx cx : Nat) (Bx : Option Addr) (nx dx : Nat) (Aq : Option Addr) (nq cq : Nat) (Ar : Option Addr) (nr cr : Nat) (D : DT) (p q : List PS) : Posts := fun b t v w => match t with
  | 3 => v = .pointer (some ⟨P3, 0, none⟩)
  | 4 => v = .pointer (some ⟨P4, 0, none⟩)
  | 24 => v = .agg #[.int .i64 kdx, .int .i64 nnx, .int .u64 uux, .string sx, .slice Ax mx cx, .slice Bx nx dx]
  | 25 => NVp w D b v
  | 26 => v = .pointer (some ⟨P4, 0, none⟩)
  | 27 => v = .slice Aq nq cq
  | 28 => QVp w p b v
  | 29 => v = .pointer (some ⟨P4, 1, none⟩)
  | 30 => v = .slice Ar nr cr
  | 31 => QVp w q b v
  | 7 => v = .pointer (some ⟨b, 0, none⟩)
  | 8 => QVp w p b v
  | 9 => QVp w q b v
  | _ => True
theorem pp1_st (P3 P4 : Nat) (kdx nnx uux : Int) (sx : ByteArray) (Ax : Option Addr) (mx cx : Nat) (Bx : Option Addr) (nx dx : Nat) (Aq : Option Addr) (nq cq : Nat) (Ar : Option Addr) (nr cr : Nat) (D : DT) (p q : List PS) : ∀ (b : Nat) (t : Tmp) (v : Value) (w w' : World), ExtB b w w' → pp1 P3 P4 kdx nnx uux sx Ax mx cx Bx nx dx Aq nq cq Ar nr cr D p q b t v w → pp1 P3 P4 kdx nnx uux sx Ax mx cx Bx nx dx Aq nq cq Ar nr cr D p q b t v w' := by
  intro b t v w w' hE
  unfold pp1
  split
  · exact id
  · exact id
  · exact id
  · exact fun h => h.ext hE
  · exact id
  · exact id
  · exact fun h => h.ext hE
  · exact id
  · exact id
  · exact fun h => h.ext hE
  · exact id
  · exact fun h => h.ext hE
  · exact fun h => h.ext hE
  · exact id
def pp14 (P7 i : Nat) (kda nna uua : Int) (sa : ByteArray) (Aa : Option Addr) (ma ca : Nat) (Ba : Option Addr) (na da : Nat) (Aw : Option Addr) (cw : Nat) (pw : List PS) (X : DT) (er : Int) : Posts := fun b t v w => match t with
  | 7 => v = .pointer (some ⟨P7, 0, none⟩)
  | 8 => v = .slice Aw pw.length cw
  | 19 => v = .int .i64 (i : Nat)
  | 93 => v = .agg #[.int .i64 kda, .int .i64 nna, .int .u64 uua, .string sa, .slice Aa ma ca, .slice Ba na da]
  | 94 => v = .slice Aw pw.length cw
  | 95 => v = .int .i64 (i : Nat)
  | 96 => v = .int .i64 ((i + 1 : Nat) : Int)
  | 97 => v = .slice Aw (i + 1) cw
  | 98 => SVp w X er b v
  | 92 => SVp w X er b v
  | 99 => NVp w X b v
  | 100 => v = .int .i64 er
  | 20 => v = .pointer (some ⟨b, 0, none⟩)
  | 21 => v = .int .i64 er
  | _ => True
theorem pp14_st (P7 i : Nat) (kda nna uua : Int) (sa : ByteArray) (Aa : Option Addr) (ma ca : Nat) (Ba : Option Addr) (na da : Nat) (Aw : Option Addr) (cw : Nat) (pw : List PS) (X : DT) (er : Int) : ∀ (b : Nat) (t : Tmp) (v : Value) (w w' : World), ExtB b w w' → pp14 P7 i kda nna uua sa Aa ma ca Ba na da Aw cw pw X er b t v w → pp14 P7 i kda nna uua sa Aa ma ca Ba na da Aw cw pw X er b t v w' := by
  intro b t v w w' hE
  unfold pp14
  split
  · exact id
  · exact id
  · exact id
  · exact id
  · exact id
  · exact id
  · exact id
  · exact id
  · exact fun h => h.ext hE
  · exact fun h => h.ext hE
  · exact fun h => h.ext hE
  · exact id
  · exact id
  · exact id
  · exact id
def pp15 (P7 i : Nat) (kda nna uua : Int) (sa : ByteArray) (Aa : Option Addr) (ma ca : Nat) (Ba : Option Addr) (na da : Nat) (Aw : Option Addr) (cw : Nat) (pw : List PS) (X : DT) (er : Int) : Posts := fun b t v w => match t with
  | 7 => v = .pointer (some ⟨P7, 0, none⟩)
  | 9 => v = .slice Aw pw.length cw
  | 19 => v = .int .i64 (i : Nat)
  | 102 => v = .agg #[.int .i64 kda, .int .i64 nna, .int .u64 uua, .string sa, .slice Aa ma ca, .slice Ba na da]
  | 103 => v = .slice Aw pw.length cw
  | 104 => v = .int .i64 (i : Nat)
  | 105 => v = .int .i64 ((i + 1 : Nat) : Int)
  | 106 => v = .slice Aw (i + 1) cw
  | 107 => SVp w X er b v
  | 101 => SVp w X er b v
  | 108 => NVp w X b v
  | 109 => v = .int .i64 er
  | 22 => v = .pointer (some ⟨b, 0, none⟩)
  | 23 => v = .int .i64 er
  | _ => True
theorem pp15_st (P7 i : Nat) (kda nna uua : Int) (sa : ByteArray) (Aa : Option Addr) (ma ca : Nat) (Ba : Option Addr) (na da : Nat) (Aw : Option Addr) (cw : Nat) (pw : List PS) (X : DT) (er : Int) : ∀ (b : Nat) (t : Tmp) (v : Value) (w w' : World), ExtB b w w' → pp15 P7 i kda nna uua sa Aa ma ca Ba na da Aw cw pw X er b t v w → pp15 P7 i kda nna uua sa Aa ma ca Ba na da Aw cw pw X er b t v w' := by
  intro b t v w w' hE
  unfold pp15
  split
  · exact id
  · exact id
  · exact id
  · exact id
  · exact id
  · exact id
  · exact id
  · exact id
  · exact fun h => h.ext hE
  · exact fun h => h.ext hE
  · exact fun h => h.ext hE
  · exact id
  · exact id
  · exact id
  · exact id
def pp20a (i : Nat) (P20 P22 : Nat) (kdc nnc uuc : Int) (sc : ByteArray) (Ac : Option Addr) (mc cc : Nat) (Bc : Option Addr) (nc dc : Nat) (kdd nnd uud : Int) (sd : ByteArray) (Ad : Option Addr) (md cd : Nat) (Bd : Option Addr) (nd dd : Nat) (gp op np cp gq oq nq cq : Nat) (k0 : List UInt8) (k1 : Int) (k2 : Bool) (j0 : List UInt8) (j1 : Int) (j2 : Bool) : Posts := fun b t v w => match t with
  | 8 => v = .slice (some ⟨gp, op, none⟩) np cp
  | 9 => v = .slice (some ⟨gq, oq, none⟩) nq cq
  | 19 => v = .int .i64 (i : Nat)
  | 20 => v = .pointer (some ⟨P20, 0, none⟩)
  | 22 => v = .pointer (some ⟨P22, 0, none⟩)
  | 123 => v = .slice (some ⟨gp, op, none⟩) np cp
  | 124 => v = .int .i64 (i : Nat)
  | 125 => v = .pointer (some ⟨gp, op + i * 3, none⟩)
  | 126 => v = .agg #[.string ⟨k0.toArray⟩, .int .i64 k1, .bool k2]
  | 127 => v = .slice (some ⟨gq, oq, none⟩) nq cq
  | 128 => v = .int .i64 (i : Nat)
  | 129 => v = .pointer (some ⟨gq, oq + i * 3, none⟩)
  | 130 => v = .agg #[.string ⟨j0.toArray⟩, .int .i64 j1, .bool j2]
  | 131 => v = .bool false
  | 132 => v = .bool false
  | 137 => v = .bool false
  | _ => True
theorem pp20a_st (i : Nat) (P20 P22 : Nat) (kdc nnc uuc : Int) (sc : ByteArray) (Ac : Option Addr) (mc cc : Nat) (Bc : Option Addr) (nc dc : Nat) (kdd nnd uud : Int) (sd : ByteArray) (Ad : Option Addr) (md cd : Nat) (Bd : Option Addr) (nd dd : Nat) (gp op np cp gq oq nq cq : Nat) (k0 : List UInt8) (k1 : Int) (k2 : Bool) (j0 : List UInt8) (j1 : Int) (j2 : Bool) : ∀ (b : Nat) (t : Tmp) (v : Value) (w w' : World), ExtB b w w' → pp20a i P20 P22 kdc nnc uuc sc Ac mc cc Bc nc dc kdd nnd uud sd Ad md cd Bd nd dd gp op np cp gq oq nq cq k0 k1 k2 j0 j1 j2 b t v w → pp20a i P20 P22 kdc nnc uuc sc Ac mc cc Bc nc dc kdd nnd uud sd Ad md cd Bd nd dd gp op np cp gq oq nq cq k0 k1 k2 j0 j1 j2 b t v w' := by
  intro b t v w w' hE
  unfold pp20a
  split
  · exact id
  · exact id
  · exact id
  · exact id
  · exact id
  · exact id
  · exact id
  · exact id
  · exact id
  · exact id
  · exact id
  · exact id
  · exact id
  · exact id
  · exact id
  · exact id
  · exact id
def pp20b (i : Nat) (P20 P22 : Nat) (kdc nnc uuc : Int) (sc : ByteArray) (Ac : Option Addr) (mc cc : Nat) (Bc : Option Addr) (nc dc : Nat) (kdd nnd uud : Int) (sd : ByteArray) (Ad : Option Addr) (md cd : Nat) (Bd : Option Addr) (nd dd : Nat) (gp op np cp gq oq nq cq : Nat) (k0 : List UInt8) (k1 : Int) (k2 : Bool) (j0 : List UInt8) (j1 : Int) (j2 : Bool) (rr : Bool) : Posts := fun b t v w => match t with
  | 8 => v = .slice (some ⟨gp, op, none⟩) np cp
  | 9 => v = .slice (some ⟨gq, oq, none⟩) nq cq
  | 19 => v = .int .i64 (i : Nat)
  | 20 => v = .pointer (some ⟨P20, 0, none⟩)
  | 22 => v = .pointer (some ⟨P22, 0, none⟩)
  | 123 => v = .slice (some ⟨gp, op, none⟩) np cp
  | 124 => v = .int .i64 (i : Nat)
  | 125 => v = .pointer (some ⟨gp, op + i * 3, none⟩)
  | 126 => v = .agg #[.string ⟨k0.toArray⟩, .int .i64 k1, .bool k2]
  | 127 => v = .slice (some ⟨gq, oq, none⟩) nq cq
  | 128 => v = .int .i64 (i : Nat)
  | 129 => v = .pointer (some ⟨gq, oq + i * 3, none⟩)
  | 130 => v = .agg #[.string ⟨j0.toArray⟩, .int .i64 j1, .bool j2]
  | 131 => v = .bool true
  | 132 => v = .bool true
  | 133 => v = .agg #[.int .i64 kdc, .int .i64 nnc, .int .u64 uuc, .string sc, .slice Ac mc cc, .slice Bc nc dc]
  | 134 => v = .agg #[.int .i64 kdd, .int .i64 nnd, .int .u64 uud, .string sd, .slice Ad md cd, .slice Bd nd dd]
  | 135 => v = .bool rr
  | 136 => v = .bool !rr
  | 137 => v = .bool !rr
  | _ => True
theorem pp20b_st (i : Nat) (P20 P22 : Nat) (kdc nnc uuc : Int) (sc : ByteArray) (Ac : Option Addr) (mc cc : Nat) (Bc : Option Addr) (nc dc : Nat) (kdd nnd uud : Int) (sd : ByteArray) (Ad : Option Addr) (md cd : Nat) (Bd : Option Addr) (nd dd : Nat) (gp op np cp gq oq nq cq : Nat) (k0 : List UInt8) (k1 : Int) (k2 : Bool) (j0 : List UInt8) (j1 : Int) (j2 : Bool) (rr : Bool) : ∀ (b : Nat) (t : Tmp) (v : Value) (w w' : World), ExtB b w w' → pp20b i P20 P22 kdc nnc uuc sc Ac mc cc Bc nc dc kdd nnd uud sd Ad md cd Bd nd dd gp op np cp gq oq nq cq k0 k1 k2 j0 j1 j2 rr b t v w → pp20b i P20 P22 kdc nnc uuc sc Ac mc cc Bc nc dc kdd nnd uud sd Ad md cd Bd nd dd gp op np cp gq oq nq cq k0 k1 k2 j0 j1 j2 rr b t v w' := by
  intro b t v w w' hE
  unfold pp20b
  split
  · exact id
  · exact id
  · exact id
  · exact id
  · exact id
  · exact id
  · exact id
  · exact id
  · exact id
  · exact id
  · exact id
  · exact id
  · exact id
  · exact id
  · exact id
  · exact id
  · exact id
  · exact id
  · exact id
  · exact id
  · exact id
set_option maxHeartbeats 32000000 in
set_option maxRecDepth 100000 in
theorem pathPuts_any (T N : DT) (P0 Q0 : List PS) (w : World) (x0 x1 x2 x3 x4 x5 y0 y1 y2 y3 y4 y5 : Value) (Aq Ar : Option Addr) (cq cr : Nat) (hx : RRep w T [x0, x1, x2, x3, x4, x5]) (hy : RRep w N [y0, y1, y2, y3, y4, y5]) (hwT : WfD T) (hwN : WfD N)
    (hp : StepRd w (.slice Aq P0.length cq) P0) (hq : StepRd w (.slice Ar Q0.length cr) Q0) (hsp : StepsOk P0) (hsq : StepsOk Q0) (hT : ShowTabs w) :
    Calls Tryz.prog 8 #[.agg #[x0, x1, x2, x3, x4, x5], .agg #[.slice Aq P0.length cq, .slice Ar Q0.length cr], .agg #[y0, y1, y2, y3, y4, y5]] w fun e w' => e = .returned (.bool true) ∧ Below w.heap.size w w' := by
  obtain ⟨BB, hBB⟩ : ∃ b, b = w.heap.size := ⟨_, rfl⟩
  rw [← hBB]
  have HBB := Lib.hid hBB
  have HF := Lib.hid (fun (V : World) (hV : Below w.heap.size w V) => few8_any T V _ _ _ _ _ _ (RRep.below hV _ _ hx) hwT)
  have HFN := Lib.hid (fun (V : World) (hV : Below w.heap.size w V) => few8_any N V _ _ _ _ _ _ (RRep.below hV _ _ hy) hwN)
  have HCP := Lib.hid (fun (V : World) (hV : Below w.heap.size w V) => cut8_any P0 Aq cq V (Rd.below hp hV) fun s hs => (hsp s hs).1)
  have HCQ := Lib.hid (fun (V : World) (hV : Below w.heap.size w V) => cut8_any Q0 Ar cr V (Rd.below hq hV) fun s hs => (hsq s hs).1)
  have HSD := Lib.hid (few_small T)
  have HWD := Lib.hid (few_wf hwT)
  have HZD := Lib.hid (few_size T)
  have HSM := Lib.hid (few_small N)
  have HWM := Lib.hid (few_wf hwN)
  have HZM := Lib.hid (few_size N)
  have hpl := cutP_len P0
  have hql := cutP_len Q0
  generalize fewD T = D at *
  generalize fewD N = M at *
  generalize cutP P0 = p at *
  generalize cutP Q0 = q at *
  have HLT := Lib.hid hT
  obtain ⟨kdx, nnx, uux, sx, Ax, mx, cx, Bx, nx, dx, hcs⟩ := hx.cs6
  simp only [List.cons.injEq, and_true] at hcs
  obtain ⟨rfl, rfl, rfl, rfl, rfl, rfl⟩ := hcs
  obtain ⟨kdv, nnv, uuv, sv, Av, mv, cv, Bv, nv, dv, hcs⟩ := hy.cs6
  simp only [List.cons.injEq, and_true] at hcs
  obtain ⟨rfl, rfl, rfl, rfl, rfl, rfl⟩ := hcs
  clear hx hy hwT hwN hp hq hsp hsq hT hBB
  generalize P0.length = nq at *
  generalize Q0.length = nr at *
  go_enter Tryz.func8, Tryz.ntmps8
  go_upto_region 1 with fail
  refine wp_named (fun wn => Below w.heap.size w wn ∧ wn.heap[w.heap.size]? = some (.cells #[.int .i64 kdx, .int .i64 nnx, .int .u64 uux, .string sx, .slice Ax mx cx, .slice Bx nx dx] 38 (0, 0)) ∧ wn.heap[w.heap.size + 1]? = some (.cells #[.slice Aq nq cq, .slice Ar nr cr] 47 (0, 0)) ∧ wn.heap[w.heap.size + 2]? = some (.cells #[.int .i64 kdv, .int .i64 nnv, .int .u64 uuv, .string sv, .slice Av mv cv, .slice Bv nv dv] 38 (0, 0))) ⟨by exact zw, ?_, ?_, ?_⟩ ?_
  · exact (Below.heap_alloc _ _ _ (by simp; omega)).trans ((Below.heap_alloc _ _ _ (by simp)).trans (heap_alloc_new _ _))
  · refine (Below.heap_alloc _ _ _ (by simp)).trans ?_
    have := heap_alloc_new (w.alloc (.cells #[.int .i64 kdx, .int .i64 nnx, .int .u64 uux, .string sx, .slice Ax mx cx, .slice Bx nx dx] 38)) (.cells #[.slice Aq nq cq, .slice Ar nr cr] 47)
    rw [World.size_alloc] at this
    exact this
  · have := heap_alloc_new ((w.alloc (.cells #[.int .i64 kdx, .int .i64 nnx, .int .u64 uux, .string sx, .slice Ax mx cx, .slice Bx nx dx] 38)).alloc (.cells #[.slice Aq nq cq, .slice Ar nr cr] 47)) (.cells #[.int .i64 kdv, .int .i64 nnv, .int .u64 uuv, .string sv, .slice Av mv cv, .slice Bv nv dv] 38)
    rw [World.size_alloc, World.size_alloc] at this
    exact this
  rintro wn ⟨hbn, h3, h4, h5⟩
  generalize w.heap.size + 2 = P5 at h5 ⊢
  generalize w.heap.size + 1 = P4 at h4 ⊢
  generalize w.heap.size = P3 at h3 ⊢
  have HBN := Lib.hid hbn
  have HL := Lib.hid (show LW w wn from ⟨hbn, HLT.out.below hbn⟩)
  have g4 : P4 < wn.heap.size := (Array.getElem?_eq_some_iff.1 h4).1
  have q0 : wn.cell? ⟨P4, 0, none⟩ = some (.slice Aq nq cq) := cell_of_row _ _ _ _ _ _ h4
  have q1 : wn.cell? ⟨P4, 1, none⟩ = some (.slice Ar nr cr) := cell_of_row _ _ _ _ _ _ h4
  have HV5 := Lib.hid h5
  clear hbn h4 h5 HLT
  refine wp_region_each1P (n := 150) (ia := 8) (is_ := 9) [24, 25, 26, 27, 28, 29, 30, 31, 7, 8, 9] (pp1 P3 P4 kdx nnx uux sx Ax mx cx Bx nx dx Aq nq cq Ar nr cr D p q) (blkT D) (by kernel_rfl) (by kernel_rfl) rfl (by kernel_rfl) (pp1_st P3 P4 kdx nnx uux sx Ax mx cx Bx nx dx Aq nq cq Ar nr cr D p q) (blkT_st D) ?_ rfl rfl rfl (fun a w K hK => opwp_allocN rfl a w K hK) (fun _ _ => rfl) (fun w => heap_alloc_new _ _) rfl rfl ?_ (by kernel_rfl) ?_ ?_
  · intro b hb t ht
    unfold pp1
    split
    · rfl
    · rfl
    · exact absurd rfl (ht 0 _ rfl)
    · exact absurd rfl (ht 1 _ rfl)
    · exact absurd rfl (ht 2 _ rfl)
    · exact absurd rfl (ht 3 _ rfl)
    · exact absurd rfl (ht 4 _ rfl)
    · exact absurd rfl (ht 5 _ rfl)
    · exact absurd rfl (ht 6 _ rfl)
    · exact absurd rfl (ht 7 _ rfl)
    · exact absurd rfl (ht 8 _ rfl)
    · exact absurd rfl (ht 10 _ rfl)
    · exact absurd rfl (ht 11 _ rfl)
    · trivial
  · intro b a w hB hb1 hb2 hk hblk
    refine ⟨rfl, ?_⟩
    have ep : a.eval (.tmp 7) = .pointer (some ⟨b, 0, none⟩) := hk 7 (by decide)
    obtain ⟨kd', nn', uu', s', A', m', c', A2', m2', c2', bs', ev, hn, hbn⟩ : NVp w D b (a.eval (.tmp 25)) := hk 25 (by decide)
    refine opwp_storeN rfl rfl ep ev hblk ?_
    intro w' q1 q2 q3 q4
    exact ⟨rfl, q2, q3, q4 wn hb1 hB, kd', nn', uu', s', A', m', c', A2', m2', c2', bs', q1, hn.ext q2 hbn⟩
  · intro jq oq hjq hne1 hne2
    match jq, hjq, hne1, hne2 with
    | 0, hjq, _, _ =>
      simp only [List.getElem?_toArray, List.getElem?_cons_zero, List.getElem?_cons_succ, Option.some.injEq] at hjq
      subst hjq
      intro B a w hB hb hk
      obtain ⟨b0, hb0⟩ := hB
      have e3 : a.eval (.tmp 3) = .pointer (some ⟨P3, 0, none⟩) := hk b0 hb0 3 (by decide)
      refine ⟨rfl, opwp_load6 rfl e3 (below_row h3 hb) ?_⟩
      exact ⟨Below.refl _ _, _, rfl, fun d hd b _ _ => by cases hd; rfl⟩
    | 1, hjq, _, _ =>
      simp only [List.getElem?_toArray, List.getElem?_cons_zero, List.getElem?_cons_succ, Option.some.injEq] at hjq
      subst hjq
      intro B a w hB hb hk
      obtain ⟨b0, hb0⟩ := hB
      have e24 : a.eval (.tmp 24) = .agg #[.int .i64 kdx, .int .i64 nnx, .int .u64 uux, .string sx, .slice Ax mx cx, .slice Bx nx dx] := hk b0 hb0 24 (by decide)
      refine ⟨rfl, opwp_call (fun v w' => Below w.heap.size w w' ∧ ∀ b, B b → (b < w.heap.size ∨ w'.heap.size ≤ b) → NVp w' D b v) (exec_call [a.eval (.tmp 24)] Tryz.func21 (by kernel_rfl) rfl rfl rfl) ?_ ?_⟩
      · rw [e24]
        refine (HF.out w (HBN.out.trans (hb.mono HBN.out.size))).mono ?_
        rintro e w' ⟨⟨v, rfl, hf⟩, h⟩
        exact ⟨_, rfl, h, fun b _ hbb => fresh_nvp hf hbb⟩
      · rintro v w' ⟨h, hv⟩
        exact ⟨h, _, rfl, fun d hd b hbB hbb => by cases hd; exact hv b hbB hbb⟩
    | 2, hjq, _, _ =>
      simp only [List.getElem?_toArray, List.getElem?_cons_zero, List.getElem?_cons_succ, Option.some.injEq] at hjq
      subst hjq
      intro B a w hB hb hk
      obtain ⟨b0, hb0⟩ := hB
      have e4 : a.eval (.tmp 4) = .pointer (some ⟨P4, 0, none⟩) := hk b0 hb0 4 (by decide)
      refine ⟨rfl, opwp_ia2 (k := 0) rfl e4 (by decide) ?_⟩
      exact ⟨Below.refl _ _, _, rfl, fun d hd b _ _ => by cases hd; rfl⟩
    | 3, hjq, _, _ =>
      simp only [List.getElem?_toArray, List.getElem?_cons_zero, List.getElem?_cons_succ, Option.some.injEq] at hjq
      subst hjq
      intro B a w hB hb hk
      obtain ⟨b0, hb0⟩ := hB
      have e26 : a.eval (.tmp 26) = .pointer (some ⟨P4, 0, none⟩) := hk b0 hb0 26 (by decide)
      refine ⟨rfl, opwp_ldQ rfl e26 ((hb.cell (p := ⟨P4, 0, none⟩) g4).trans q0) ?_⟩
      exact ⟨Below.refl _ _, _, rfl, fun d hd b _ _ => by cases hd; rfl⟩
    | 4, hjq, _, _ =>
      simp only [List.getElem?_toArray, List.getElem?_cons_zero, List.getElem?_cons_succ, Option.some.injEq] at hjq
      subst hjq
      intro B a w hB hb hk
      obtain ⟨b0, hb0⟩ := hB
      have e27 : a.eval (.tmp 27) = .slice Aq nq cq := hk b0 hb0 27 (by decide)
      refine ⟨rfl, opwp_call (fun v w' => Below w.heap.size w w' ∧ ∀ b, B b → (b < w.heap.size ∨ w'.heap.size ≤ b) → QVp w' p b v) (exec_call [a.eval (.tmp 27)] Tryz.func13 (by kernel_rfl) rfl rfl rfl) ?_ ?_⟩
      · rw [e27]
        refine (HCP.out w (HBN.out.trans (hb.mono HBN.out.size))).mono ?_
        rintro e w' ⟨⟨v, rfl, hf⟩, h⟩
        exact ⟨_, rfl, h, fun b _ hbb => srow_qvp hf hbb⟩
      · rintro v w' ⟨h, hv⟩
        exact ⟨h, _, rfl, fun d hd b hbB hbb => by cases hd; exact hv b hbB hbb⟩
    | 5, hjq, _, _ =>
      simp only [List.getElem?_toArray, List.getElem?_cons_zero, List.getElem?_cons_succ, Option.some.injEq] at hjq
      subst hjq
      intro B a w hB hb hk
      obtain ⟨b0, hb0⟩ := hB
      have e4 : a.eval (.tmp 4) = .pointer (some ⟨P4, 0, none⟩) := hk b0 hb0 4 (by decide)
      refine ⟨rfl, opwp_ia2 (k := 1) rfl e4 (by decide) ?_⟩
      exact ⟨Below.refl _ _, _, rfl, fun d hd b _ _ => by cases hd; rfl⟩
    | 6, hjq, _, _ =>
      simp only [List.getElem?_toArray, List.getElem?_cons_zero, List.getElem?_cons_succ, Option.some.injEq] at hjq
      subst hjq
      intro B a w hB hb hk
      obtain ⟨b0, hb0⟩ := hB
      have e29 : a.eval (.tmp 29) = .pointer (some ⟨P4, 1, none⟩) := hk b0 hb0 29 (by decide)
      refine ⟨rfl, opwp_ldQ rfl e29 ((hb.cell (p := ⟨P4, 1, none⟩) g4).trans q1) ?_⟩
      exact ⟨Below.refl _ _, _, rfl, fun d hd b _ _ => by cases hd; rfl⟩
    | 7, hjq, _, _ =>
      simp only [List.getElem?_toArray, List.getElem?_cons_zero, List.getElem?_cons_succ, Option.some.injEq] at hjq
      subst hjq
      intro B a w hB hb hk
      obtain ⟨b0, hb0⟩ := hB
      have e30 : a.eval (.tmp 30) = .slice Ar nr cr := hk b0 hb0 30 (by decide)
      refine ⟨rfl, opwp_call (fun v w' => Below w.heap.size w w' ∧ ∀ b, B b → (b < w.heap.size ∨ w'.heap.size ≤ b) → QVp w' q b v) (exec_call [a.eval (.tmp 30)] Tryz.func13 (by kernel_rfl) rfl rfl rfl) ?_ ?_⟩
      · rw [e30]
        refine (HCQ.out w (HBN.out.trans (hb.mono HBN.out.size))).mono ?_
        rintro e w' ⟨⟨v, rfl, hf⟩, h⟩
        exact ⟨_, rfl, h, fun b _ hbb => srow_qvp hf hbb⟩
      · rintro v w' ⟨h, hv⟩
        exact ⟨h, _, rfl, fun d hd b hbB hbb => by cases hd; exact hv b hbB hbb⟩
    | 8, hjq, h, _ => exact absurd rfl h
    | 9, hjq, _, h => exact absurd rfl h
    | 10, hjq, _, _ =>
      simp only [List.getElem?_toArray, List.getElem?_cons_zero, List.getElem?_cons_succ, Option.some.injEq] at hjq
      subst hjq
      intro B a w hB hb hk
      obtain ⟨b0, hb0⟩ := hB
      have h0 : ∀ b, B b → QVp w p b (a.eval (.tmp 28)) := fun b hb => hk b hb 28 (by decide)
      refine ⟨rfl, opwp_assign rfl rfl ?_⟩
      exact ⟨Below.refl _ _, _, rfl, fun d hd b hbB _ => by cases hd; exact h0 b hbB⟩
    | 11, hjq, _, _ =>
      simp only [List.getElem?_toArray, List.getElem?_cons_zero, List.getElem?_cons_succ, Option.some.injEq] at hjq
      subst hjq
      intro B a w hB hb hk
      obtain ⟨b0, hb0⟩ := hB
      have h0 : ∀ b, B b → QVp w q b (a.eval (.tmp 31)) := fun b hb => hk b hb 31 (by decide)
      refine ⟨rfl, opwp_assign rfl rfl ?_⟩
      exact ⟨Below.refl _ _, _, rfl, fun d hd b hbB _ => by cases hd; exact h0 b hbB⟩
    | kq + 12, hjq, _, _ => cases hjq
  rintro P7 f w2 hb hp1 hp2 hp hblk
  have e7 : f 7 = .pointer (some ⟨P7, 0, none⟩) := hp 7 (by decide)
  obtain ⟨A8, c8, e8, hr8, -⟩ := (show QVp w2 p P7 (f 8) from hp 8 (by decide))
  obtain ⟨A9, c9, e9, hr9, -⟩ := (show QVp w2 q P7 (f 9) from hp 9 (by decide))
  simp only [puts, List.foldl, Act.put, List.setIfInBounds_toArray, List.set_cons_zero, List.set_cons_succ, e7, e8, e9]
  generalize f 24 = v24
  generalize f 25 = v25
  generalize f 26 = v26
  generalize f 27 = v27
  generalize f 28 = v28
  generalize f 29 = v29
  generalize f 30 = v30
  generalize f 31 = v31
  rw [e8] at hr8
  rw [e9] at hr9
  have hcap8 := ownsRow_cap hr8
  have hcap9 := ownsRow_cap hr9
  have HR8 := Lib.hid (show StepRd w2 (.slice A8 p.length c8) p from Rd.of_owns hr8)
  have HR9 := Lib.hid (show StepRd w2 (.slice A9 q.length c9) q from Rd.of_owns hr9)
  have HT7 := Lib.hid (TB.of_blk hblk)
  replace HL := Lib.hid (HL.out.next hb)
  replace HV5 := Lib.hid (below_row HV5.out hb)
  clear hb hp1 hp2 hp hblk e7 e8 e9 hr8 hr9 h3 g4 q0 q1 HF HCP HCQ HBN
  have h5 := HV5.out
  obtain ⟨z0, z1, z2, z3, z4, z5⟩ := cells6 h5
  have HBF := Lib.hid HL.out.b
  go_wp2_with fail
  refine (HFN.out w2 HBF.out).mono ?_
  rintro e w3 ⟨⟨v, rfl, hF⟩, hb⟩
  replace HL := Lib.hid (HL.out.next hb)
  replace HV5 := Lib.hid (below_row HV5.out hb)
  replace HR8 := Lib.hid (Rd.below HR8.out hb)
  replace HR9 := Lib.hid (Rd.below HR9.out hb)
  replace HT7 := Lib.hid (HT7.out.below hb)
  clear hb h5 z0 z1 z2 z3 z4 z5 HV5 HFN HBF
  obtain ⟨y0, y1, y2, y3, y4, y5, bsm, rfl, hNm, -, -⟩ := hF
  obtain ⟨kdm, nnm, uum, sm, Am, mm, cm, Bm, nm, dm, rfl, rfl, rfl, rfl, rfl, rfl⟩ := hNm.form2
  go_upto_region 3 with fail
  refine wp_named (fun wn => Below w3.heap.size w3 wn ∧ wn.heap[w3.heap.size]? = some (.cells #[.int .i64 kdm, .int .i64 nnm, .int .u64 uum, .string sm, .slice Am mm cm, .slice Bm nm dm] 38 (0, 0))) ⟨(Below.refl _ w3).alloc (Nat.le_refl _) _, heap_alloc_new _ _⟩ ?_
  rintro w4 ⟨hb, hP⟩
  replace HL := Lib.hid (HL.out.next hb)
  replace HR8 := Lib.hid (Rd.below HR8.out hb)
  replace HR9 := Lib.hid (Rd.below HR9.out hb)
  replace HT7 := Lib.hid (HT7.out.below hb)
  have HT10 := Lib.hid (show TB w4 w3.heap.size M from ⟨_, _, _, _, _, _, _, _, _, _, _, hP, hNm.below hb⟩)
  clear hb hP hNm
  generalize w3.heap.size = P10 at HT10 ⊢
  obtain ⟨X, er, hset⟩ : ∃ X er, setR D p M = (X, er) := ⟨_, _, rfl⟩
  obtain ⟨kda, nna, uua, sa, Aa, ma, ca, Ba, na, da, bsa, ha, hNa⟩ := HT7.out
  obtain ⟨z0a, z1a, z2a, z3a, z4a, z5a⟩ := cells6 ha
  obtain ⟨kdb, nnb, uub, sb, Ab, mb, cb, Bb, nb, db, bsb, hb, hNb⟩ := HT10.out
  obtain ⟨z0b, z1b, z2b, z3b, z4b, z5b⟩ := cells6 hb
  have HS := set_any p D M w4 _ _ _ _ _ _ _ _ _ _ _ _ bsa bsb A8 c8 hNa hNb HSD.out HSM.out HWD.out HWM.out (by have h1 := HZD.out; have h2 := HZM.out; omega) HR8.out hcap8
  rw [hset] at HS
  replace HS := Lib.hid HS
  have HSET := Lib.hid hset
  clear hset hNa hNb
  go_wp2_with fail
  refine (HS.out).mono ?_
  rintro e w5 ⟨hne, hb⟩
  replace HL := Lib.hid (HL.out.next hb)
  replace HR8 := Lib.hid (Rd.below HR8.out hb)
  replace HR9 := Lib.hid (Rd.below HR9.out hb)
  replace HT7 := Lib.hid (HT7.out.below hb)
  replace HT10 := Lib.hid (HT10.out.below hb)
  obtain ⟨v, rfl, hF⟩ := hne.two
  clear hb ha z0a z1a z2a z3a z4a z5a z0b z1b z2b z3b z4b z5b HS
  obtain ⟨y0, y1, y2, y3, y4, y5, bsx1, rfl, hNx1, -, -⟩ := hF
  obtain ⟨kdx1, nnx1, uux1, sx1, Ax1, mx1, cx1, Bx1, nx1, dx1, rfl, rfl, rfl, rfl, rfl, rfl⟩ := hNx1.form2
  go_upto_region 4 with fail
  refine wp_named (fun wn => Below w5.heap.size w5 wn ∧ wn.heap[w5.heap.size]? = some (.cells #[.int .i64 kdx1, .int .i64 nnx1, .int .u64 uux1, .string sx1, .slice Ax1 mx1 cx1, .slice Bx1 nx1 dx1] 38 (0, 0))) ⟨(Below.refl _ w5).alloc (Nat.le_refl _) _, heap_alloc_new _ _⟩ ?_
  rintro w6 ⟨hb, hP⟩
  replace HL := Lib.hid (HL.out.next hb)
  replace HR8 := Lib.hid (Rd.below HR8.out hb)
  replace HR9 := Lib.hid (Rd.below HR9.out hb)
  replace HT7 := Lib.hid (HT7.out.below hb)
  replace HT10 := Lib.hid (HT10.out.below hb)
  have HT11 := Lib.hid (show TB w6 w5.heap.size X from ⟨_, _, _, _, _, _, _, _, _, _, _, hP, hNx1.below hb⟩)
  clear hb hP hNx1
  generalize w5.heap.size = P11 at HT11 ⊢
  by_cases h0 : er = 0
  · subst h0
    obtain ⟨hput, hX, hchk⟩ := setR_ok (show (setR D p M).2 = 0 by rw [HSET.out])
    rw [HSET.out] at hX
    obtain ⟨hX, -⟩ := pair_eq hX
    have HGX := Lib.hid (show getR X p = (M, 0) from by rw [hX]; exact getR_of (put_get p D M hput).1)
    have HNN := Lib.hid (put_get p D M hput).2
    have HOT := Lib.hid (fun i => put_other p q D M i hput)
    have HNO := Lib.hid (fun i => put_none p q D M i hput)
    rw [← hX] at hchk HOT HNO
    have HCK := Lib.hid hchk
    have HSX := Lib.hid (show SmallD X by rw [hX]; exact putD_small p D M HSD.out HSM.out)
    have HWX := Lib.hid (show WfD X by rw [hX]; exact putD_wf p D M HWD.out HWM.out)
    have HZX := Lib.hid (show sizeD X ≤ 1073741824 by have h1 := putD_size p D M; have h2 := HZD.out; have h3 := HZM.out; rw [hX]; omega)
    clear hput hX hchk HSET
    obtain ⟨kda, nna, uua, sa, Aa, ma, ca, Ba, na, da, bsa, ha, hNa⟩ := HT11.out
    obtain ⟨z0a, z1a, z2a, z3a, z4a, z5a⟩ := cells6 ha
    have HG := get_any X p w6 _ _ _ _ _ _ A8 c8 (NRep.reads _ _ _ hNa) HSX.out HR8.out
    rw [HGX.out] at HG
    replace HG := Lib.hid HG
    clear hNa
    go_wp2_with fail
    refine (HG.out).mono ?_
    rintro e w7 ⟨hne, hb⟩
    replace HL := Lib.hid (HL.out.next hb)
    replace HR8 := Lib.hid (Rd.below HR8.out hb)
    replace HR9 := Lib.hid (Rd.below HR9.out hb)
    replace HT7 := Lib.hid (HT7.out.below hb)
    replace HT10 := Lib.hid (HT10.out.below hb)
    replace HT11 := Lib.hid (HT11.out.below hb)
    obtain ⟨v, rfl, hF⟩ := hne.two
    clear hb ha z0a z1a z2a z3a z4a z5a HG
    obtain ⟨y0, y1, y2, y3, y4, y5, bsg, rfl, hNg, -, -⟩ := hF
    obtain ⟨kdg, nng, uug, sg, Ag, mg, cg, Bg, ng, dg, rfl, rfl, rfl, rfl, rfl, rfl⟩ := hNg.form2
    go_upto_region 7 with fail
    refine wp_named (fun wn => Below w7.heap.size w7 wn ∧ wn.heap[w7.heap.size]? = some (.cells #[.int .i64 kdg, .int .i64 nng, .int .u64 uug, .string sg, .slice Ag mg cg, .slice Bg ng dg] 38 (0, 0))) ⟨(Below.refl _ w7).alloc (Nat.le_refl _) _, heap_alloc_new _ _⟩ ?_
    rintro w8 ⟨hb, hP⟩
    replace HL := Lib.hid (HL.out.next hb)
    replace HR8 := Lib.hid (Rd.below HR8.out hb)
    replace HR9 := Lib.hid (Rd.below HR9.out hb)
    replace HT7 := Lib.hid (HT7.out.below hb)
    replace HT10 := Lib.hid (HT10.out.below hb)
    replace HT11 := Lib.hid (HT11.out.below hb)
    have HT13 := Lib.hid (show TB w8 w7.heap.size M from ⟨_, _, _, _, _, _, _, _, _, _, _, hP, hNg.below hb⟩)
    clear hb hP hNg
    generalize w7.heap.size = P13 at HT13 ⊢
    obtain ⟨kda, nna, uua, sa, Aa, ma, ca, Ba, na, da, bsa, ha, hNa⟩ := HT13.out
    obtain ⟨z0a, z1a, z2a, z3a, z4a, z5a⟩ := cells6 ha
    obtain ⟨kdb, nnb, uub, sb, Ab, mb, cb, Bb, nb, db, bsb, hb, hNb⟩ := HT10.out
    obtain ⟨z0b, z1b, z2b, z3b, z4b, z5b⟩ := cells6 hb
    obtain ⟨kdc, nnc, uuc, sc, Ac, mc, cc, Bc, nc, dc, bsc, hc, hNc⟩ := HT11.out
    obtain ⟨z0c, z1c, z2c, z3c, z4c, z5c⟩ := cells6 hc
    have HSA := Lib.hid (same_any M M w8 w8 _ _ _ _ _ _ _ _ _ _ _ _ (Below.refl _ _) (NRep.reads _ _ _ hNa) (NRep.reads _ _ _ hNb))
    have HCC := Lib.hid (fun V (hV : Below w8.heap.size w8 V) => tcheck_any X _ _ _ _ _ _ bsc V (hNc.below hV) HWX.out HZX.out)
    have H11 := Lib.hid hc
    clear hNa hNb hNc
    go_wp2_with fail
    refine (HSA.out).mono ?_
    rintro e w9 ⟨bb, rfl, hiff, hb⟩
    replace HL := Lib.hid (HL.out.next hb)
    replace HR8 := Lib.hid (Rd.below HR8.out hb)
    replace HR9 := Lib.hid (Rd.below HR9.out hb)
    replace HT7 := Lib.hid (HT7.out.below hb)
    replace HT10 := Lib.hid (HT10.out.below hb)
    replace HT11 := Lib.hid (HT11.out.below hb)
    replace HT13 := Lib.hid (HT13.out.below hb)
    obtain rfl : bb = true := hiff.2 rfl
    have HB9 := Lib.hid hb
    have hc9 := below_row H11.out hb
    clear hiff ha hc z0a z1a z2a z3a z4a z5a z0b z1b z2b z3b z4b z5b z0c z1c z2c z3c z4c z5c
    obtain ⟨z0, z1, z2, z3, z4, z5⟩ := cells6 hc9
    have HCC2 := HCC.out w9 HB9.out
    rw [HCK.out] at HCC2
    replace HCC2 := Lib.hid HCC2
    clear hb
    go_wp2_with fail
    refine (HCC2.out).mono ?_
    rintro e w10 ⟨rfl, hb⟩
    replace HL := Lib.hid (HL.out.next hb)
    replace HR8 := Lib.hid (Rd.below HR8.out hb)
    replace HR9 := Lib.hid (Rd.below HR9.out hb)
    replace HT7 := Lib.hid (HT7.out.below hb)
    replace HT10 := Lib.hid (HT10.out.below hb)
    replace HT11 := Lib.hid (HT11.out.below hb)
    replace HT13 := Lib.hid (HT13.out.below hb)
    clear hb hc9 z0 z1 z2 z3 z4 z5 HCC HCC2 HSA H11 HB9
    obtain ⟨GT, ge, hGT⟩ : ∃ GT ge, getR D q = (GT, ge) := ⟨_, _, rfl⟩
    have HGT := Lib.hid hGT
    obtain ⟨HT, he, hHT⟩ : ∃ HT he, getR X q = (HT, he) := ⟨_, _, rfl⟩
    have HHT := Lib.hid hHT
    clear hGT hHT
    clear HT10 HT13
    obtain ⟨kda, nna, uua, sa, Aa, ma, ca, Ba, na, da, bsa, ha, hNa⟩ := HT7.out
    obtain ⟨z0a, z1a, z2a, z3a, z4a, z5a⟩ := cells6 ha
    have HG := get_any D q w10 _ _ _ _ _ _ A9 c9 (NRep.reads _ _ _ hNa) HSD.out HR9.out
    rw [HGT.out] at HG
    replace HG := Lib.hid HG
    clear hNa
    go_wp2_with fail
    refine (HG.out).mono ?_
    rintro e w11 ⟨hne, hb⟩
    replace HL := Lib.hid (HL.out.next hb)
    replace HR8 := Lib.hid (Rd.below HR8.out hb)
    replace HR9 := Lib.hid (Rd.below HR9.out hb)
    replace HT7 := Lib.hid (HT7.out.below hb)
    replace HT11 := Lib.hid (HT11.out.below hb)
    obtain ⟨v, rfl, hF⟩ := hne.two
    clear hb ha z0a z1a z2a z3a z4a z5a HG
    obtain ⟨y0, y1, y2, y3, y4, y5, bsg, rfl, hNg, -, -⟩ := hF
    obtain ⟨kdg, nng, uug, sg, Ag, mg, cg, Bg, ng, dg, rfl, rfl, rfl, rfl, rfl, rfl⟩ := hNg.form2
    go_upto_region 10 with fail
    refine wp_named (fun wn => Below w11.heap.size w11 wn ∧ wn.heap[w11.heap.size]? = some (.cells #[.int .i64 kdg, .int .i64 nng, .int .u64 uug, .string sg, .slice Ag mg cg, .slice Bg ng dg] 38 (0, 0))) ⟨(Below.refl _ w11).alloc (Nat.le_refl _) _, heap_alloc_new _ _⟩ ?_
    rintro w12 ⟨hb, hP⟩
    replace HL := Lib.hid (HL.out.next hb)
    replace HR8 := Lib.hid (Rd.below HR8.out hb)
    replace HR9 := Lib.hid (Rd.below HR9.out hb)
    replace HT7 := Lib.hid (HT7.out.below hb)
    replace HT11 := Lib.hid (HT11.out.below hb)
    have HT15 := Lib.hid (show TB w12 w11.heap.size GT from ⟨_, _, _, _, _, _, _, _, _, _, _, hP, hNg.below hb⟩)
    clear hb hP hNg
    generalize w11.heap.size = P15 at HT15 ⊢
    obtain ⟨kda, nna, uua, sa, Aa, ma, ca, Ba, na, da, bsa, ha, hNa⟩ := HT11.out
    obtain ⟨z0a, z1a, z2a, z3a, z4a, z5a⟩ := cells6 ha
    have HG := get_any X q w12 _ _ _ _ _ _ A9 c9 (NRep.reads _ _ _ hNa) HSX.out HR9.out
    rw [HHT.out] at HG
    replace HG := Lib.hid HG
    clear hNa
    go_wp2_with fail
    refine (HG.out).mono ?_
    rintro e w13 ⟨hne, hb⟩
    replace HL := Lib.hid (HL.out.next hb)
    replace HR8 := Lib.hid (Rd.below HR8.out hb)
    replace HR9 := Lib.hid (Rd.below HR9.out hb)
    replace HT7 := Lib.hid (HT7.out.below hb)
    replace HT11 := Lib.hid (HT11.out.below hb)
    replace HT15 := Lib.hid (HT15.out.below hb)
    obtain ⟨v, rfl, hF⟩ := hne.two
    clear hb ha z0a z1a z2a z3a z4a z5a HG
    obtain ⟨y0, y1, y2, y3, y4, y5, bsh, rfl, hNh, -, -⟩ := hF
    obtain ⟨kdh, nnh, uuh, sh, Ah, mh, ch, Bh, nh, dh, rfl, rfl, rfl, rfl, rfl, rfl⟩ := hNh.form2
    go_upto_region 11 with fail
    refine wp_named (fun wn => Below w13.heap.size w13 wn ∧ wn.heap[w13.heap.size]? = some (.cells #[.int .i64 kdh, .int .i64 nnh, .int .u64 uuh, .string sh, .slice Ah mh ch, .slice Bh nh dh] 38 (0, 0))) ⟨(Below.refl _ w13).alloc (Nat.le_refl _) _, heap_alloc_new _ _⟩ ?_
    rintro w14 ⟨hb, hP⟩
    replace HL := Lib.hid (HL.out.next hb)
    replace HR8 := Lib.hid (Rd.below HR8.out hb)
    replace HR9 := Lib.hid (Rd.below HR9.out hb)
    replace HT7 := Lib.hid (HT7.out.below hb)
    replace HT11 := Lib.hid (HT11.out.below hb)
    replace HT15 := Lib.hid (HT15.out.below hb)
    have HT17 := Lib.hid (show TB w14 w13.heap.size HT from ⟨_, _, _, _, _, _, _, _, _, _, _, hP, hNh.below hb⟩)
    clear hb hP hNh
    generalize w13.heap.size = P17 at HT17 ⊢
    clear HT11
    go_wp2_with fail
    go_loopw [19] (fun s19 wr => ∃ i : Nat, i ≤ p.length ∧ s19 = .int .i64 i ∧ Below w14.heap.size w14 wr) (fun s19 _ => p.length - (intOf s19).toNat)
    case atStart => exact ⟨0, by omega, rfl, Below.refl _ _⟩
    case round =>
      rename_i wr
      obtain ⟨i, hi, rfl, hbr⟩ := hrel
      replace HL := Lib.hid (HL.out.next hbr)
      replace HR8 := Lib.hid (Rd.below HR8.out hbr)
      replace HR9 := Lib.hid (Rd.below HR9.out hbr)
      replace HT7 := Lib.hid (HT7.out.below hbr)
      replace HT15 := Lib.hid (HT15.out.below hbr)
      replace HT17 := Lib.hid (HT17.out.below hbr)
      have HBR := Lib.hid hbr
      clear hbr
      by_cases h1 : i < p.length
      · have h1' : (i : Int) < (p.length : Int) := by omega
        by_cases h2 : i < q.length
        · have h2' : (i : Int) < (q.length : Int) := by omega
          obtain ⟨C, hC⟩ := Option.ne_none_iff_exists'.1 (HNN.out i h1)
          have HGC := Lib.hid (getR_of hC)
          have HC := Lib.hid hC
          obtain ⟨E, ek, hE⟩ : ∃ E ek, getR D (q.take (i + 1)) = (E, ek) := ⟨_, _, rfl⟩
          have HGE := Lib.hid hE
          clear hC hE
          go_upto_region 14 with fail
          obtain ⟨kda, nna, uua, sa, Aa, ma, ca, Ba, na, da, bsa, ha, hNa⟩ := HT7.out
          obtain ⟨z0a, z1a, z2a, z3a, z4a, z5a⟩ := cells6 ha
          have h7r := ha
          have HN7 := Lib.hid hNa
          clear hNa ha z0a z1a z2a z3a z4a z5a
          refine wp_region_each1P (n := 150) (ia := 9) (is_ := 10) [93, 94, 95, 96, 97, 98, 92, 99, 100, 20, 21] (pp14 P7 i kda nna uua sa Aa ma ca Ba na da A8 c8 p C (0 : Int)) (blkT C) (by kernel_rfl) (by kernel_rfl) rfl (by kernel_rfl) (pp14_st P7 i kda nna uua sa Aa ma ca Ba na da A8 c8 p C (0 : Int)) (blkT_st C) ?_ rfl rfl rfl (fun a w K hK => opwp_allocN rfl a w K hK) (fun _ _ => rfl) (fun w => heap_alloc_new _ _) rfl rfl ?_ (by kernel_rfl) ?_ ?_
          · intro b hb t ht
            unfold pp14
            split
            · rfl
            · rfl
            · rfl
            · exact absurd rfl (ht 0 _ rfl)
            · exact absurd rfl (ht 1 _ rfl)
            · exact absurd rfl (ht 2 _ rfl)
            · exact absurd rfl (ht 3 _ rfl)
            · exact absurd rfl (ht 4 _ rfl)
            · exact absurd rfl (ht 5 _ rfl)
            · exact absurd rfl (ht 6 _ rfl)
            · exact absurd rfl (ht 7 _ rfl)
            · exact absurd rfl (ht 8 _ rfl)
            · exact absurd rfl (ht 9 _ rfl)
            · exact absurd rfl (ht 11 _ rfl)
            · trivial
          · intro b a w hB hb1 hb2 hk hblk
            refine ⟨rfl, ?_⟩
            have ep : a.eval (.tmp 20) = .pointer (some ⟨b, 0, none⟩) := hk 20 (by decide)
            obtain ⟨kd', nn', uu', s', A', m', c', A2', m2', c2', bs', ev, hn, hbn⟩ : NVp w C b (a.eval (.tmp 99)) := hk 99 (by decide)
            refine opwp_storeN rfl rfl ep ev hblk ?_
            intro w' q1 q2 q3 q4
            exact ⟨rfl, q2, q3, q4 wr hb1 hB, kd', nn', uu', s', A', m', c', A2', m2', c2', bs', q1, hn.ext q2 hbn⟩
          · intro jq oq hjq hne1 hne2
            match jq, hjq, hne1, hne2 with
            | 0, hjq, _, _ =>
              simp only [List.getElem?_toArray, List.getElem?_cons_zero, List.getElem?_cons_succ, Option.some.injEq] at hjq
              subst hjq
              intro B a w hB hb hk
              obtain ⟨b0, hb0⟩ := hB
              have e7 : a.eval (.tmp 7) = .pointer (some ⟨P7, 0, none⟩) := hk b0 hb0 7 (by decide)
              refine ⟨rfl, opwp_load6 rfl e7 (below_row h7r hb) ?_⟩
              exact ⟨Below.refl _ _, _, rfl, fun d hd b _ _ => by cases hd; rfl⟩
            | 1, hjq, _, _ =>
              simp only [List.getElem?_toArray, List.getElem?_cons_zero, List.getElem?_cons_succ, Option.some.injEq] at hjq
              subst hjq
              intro B a w hB hb hk
              obtain ⟨b0, hb0⟩ := hB
              have e8 : a.eval (.tmp 8) = .slice A8 p.length c8 := hk b0 hb0 8 (by decide)
              refine ⟨rfl, opwp_move rfl e8 ?_⟩
              exact ⟨Below.refl _ _, _, rfl, fun d hd b _ _ => by cases hd; rfl⟩
            | 2, hjq, _, _ =>
              simp only [List.getElem?_toArray, List.getElem?_cons_zero, List.getElem?_cons_succ, Option.some.injEq] at hjq
              subst hjq
              intro B a w hB hb hk
              obtain ⟨b0, hb0⟩ := hB
              have e19 : a.eval (.tmp 19) = .int .i64 (i : Nat) := hk b0 hb0 19 (by decide)
              refine ⟨rfl, opwp_move rfl e19 ?_⟩
              exact ⟨Below.refl _ _, _, rfl, fun d hd b _ _ => by cases hd; rfl⟩
            | 3, hjq, _, _ =>
              simp only [List.getElem?_toArray, List.getElem?_cons_zero, List.getElem?_cons_succ, Option.some.injEq] at hjq
              subst hjq
              intro B a w hB hb hk
              obtain ⟨b0, hb0⟩ := hB
              have e95 : a.eval (.tmp 95) = .int .i64 (i : Nat) := hk b0 hb0 95 (by decide)
              refine ⟨rfl, opwp_add1 rfl e95 (by omega) ?_⟩
              exact ⟨Below.refl _ _, _, rfl, fun d hd b _ _ => by cases hd; rfl⟩
            | 4, hjq, _, _ =>
              simp only [List.getElem?_toArray, List.getElem?_cons_zero, List.getElem?_cons_succ, Option.some.injEq] at hjq
              subst hjq
              intro B a w hB hb hk
              obtain ⟨b0, hb0⟩ := hB
              have e94 : a.eval (.tmp 94) = .slice A8 p.length c8 := hk b0 hb0 94 (by decide)
              have e96 : a.eval (.tmp 96) = .int .i64 ((i + 1 : Nat) : Int) := hk b0 hb0 96 (by decide)
              refine ⟨rfl, opwp_slTo rfl e94 e96 (by omega) (by omega) hcap8 ?_⟩
              exact ⟨Below.refl _ _, _, rfl, fun d hd b _ _ => by cases hd; rfl⟩
            | 5, hjq, _, _ =>
              simp only [List.getElem?_toArray, List.getElem?_cons_zero, List.getElem?_cons_succ, Option.some.injEq] at hjq
              subst hjq
              intro B a w hB hb hk
              obtain ⟨b0, hb0⟩ := hB
              have e93 : a.eval (.tmp 93) = .agg #[.int .i64 kda, .int .i64 nna, .int .u64 uua, .string sa, .slice Aa ma ca, .slice Ba na da] := hk b0 hb0 93 (by decide)
              have e97 : a.eval (.tmp 97) = .slice A8 (i + 1) c8 := hk b0 hb0 97 (by decide)
              refine ⟨rfl, opwp_call (fun v w' => Below w.heap.size w w' ∧ ∀ b, B b → (b < w.heap.size ∨ w'.heap.size ≤ b) → SVp w' C (0 : Int) b v) (exec_call [a.eval (.tmp 93), a.eval (.tmp 97)] Tryz.func22 (by kernel_rfl) rfl rfl rfl) ?_ ?_⟩
              · rw [e93, e97]
                have hlen : (p.take (i + 1)).length = i + 1 := by rw [List.length_take]; omega
                have hg := get_any D (p.take (i + 1)) w _ _ _ _ _ _ A8 c8 (RRep.below hb _ _ (NRep.reads _ _ _ HN7.out)) HSD.out (by rw [hlen]; exact take_rd (Rd.below HR8.out hb) (i + 1) (by omega))
                rw [hlen, HGC.out] at hg
                refine hg.mono ?_
                rintro e w' ⟨⟨v, rfl, hf⟩, h⟩
                exact ⟨_, rfl, h, fun b _ hbb => ⟨v, rfl, fresh_nvp hf hbb⟩⟩
              · rintro v w' ⟨h, hv⟩
                exact ⟨h, _, rfl, fun d hd b hbB hbb => by cases hd; exact hv b hbB hbb⟩
            | 6, hjq, _, _ =>
              simp only [List.getElem?_toArray, List.getElem?_cons_zero, List.getElem?_cons_succ, Option.some.injEq] at hjq
              subst hjq
              intro B a w hB hb hk
              obtain ⟨b0, hb0⟩ := hB
              have h0 : ∀ b, B b → SVp w C (0 : Int) b (a.eval (.tmp 98)) := fun b hb => hk b hb 98 (by decide)
              refine ⟨rfl, opwp_move rfl rfl ?_⟩
              exact ⟨Below.refl _ _, _, rfl, fun d hd b hbB _ => by cases hd; exact h0 b hbB⟩
            | 7, hjq, _, _ =>
              simp only [List.getElem?_toArray, List.getElem?_cons_zero, List.getElem?_cons_succ, Option.some.injEq] at hjq
              subst hjq
              intro B a w hB hb hk
              obtain ⟨b0, hb0⟩ := hB
              have h0 : ∀ b, B b → SVp w C (0 : Int) b (a.eval (.tmp 92)) := fun b hb => hk b hb 92 (by decide)
              obtain ⟨u, eu, -⟩ := h0 b0 hb0
              refine ⟨rfl, opwp_ext u rfl eu rfl ?_⟩
              refine ⟨Below.refl _ _, _, rfl, fun d hd b hbB _ => ?_⟩
              cases hd
              obtain ⟨u', eu', hu⟩ := h0 b hbB
              rw [eu] at eu'
              cases eu'
              exact hu
            | 8, hjq, _, _ =>
              simp only [List.getElem?_toArray, List.getElem?_cons_zero, List.getElem?_cons_succ, Option.some.injEq] at hjq
              subst hjq
              intro B a w hB hb hk
              obtain ⟨b0, hb0⟩ := hB
              obtain ⟨u, eu, -⟩ : SVp w C (0 : Int) b0 (a.eval (.tmp 92)) := hk b0 hb0 92 (by decide)
              refine ⟨rfl, opwp_ext (.int .i64 (0 : Int)) rfl eu rfl ?_⟩
              exact ⟨Below.refl _ _, _, rfl, fun d hd b _ _ => by cases hd; rfl⟩
            | 9, hjq, h, _ => exact absurd rfl h
            | 10, hjq, _, h => exact absurd rfl h
            | 11, hjq, _, _ =>
              simp only [List.getElem?_toArray, List.getElem?_cons_zero, List.getElem?_cons_succ, Option.some.injEq] at hjq
              subst hjq
              intro B a w hB hb hk
              obtain ⟨b0, hb0⟩ := hB
              have e100 : a.eval (.tmp 100) = .int .i64 (0 : Int) := hk b0 hb0 100 (by decide)
              refine ⟨rfl, opwp_assign rfl e100 ?_⟩
              exact ⟨Below.refl _ _, _, rfl, fun d hd b _ _ => by cases hd; rfl⟩
            | kq + 12, hjq, _, _ => cases hjq
          rintro P20 f ws hb hp1 hp2 hp hblk
          have e20 : f 20 = .pointer (some ⟨P20, 0, none⟩) := hp 20 (by decide)
          have e21 : f 21 = .int .i64 0 := hp 21 (by decide)
          simp only [puts, List.foldl, Act.put, List.setIfInBounds_toArray, List.set_cons_zero, List.set_cons_succ, e20, e21]
          generalize f 93 = v93
          generalize f 94 = v94
          generalize f 95 = v95
          generalize f 96 = v96
          generalize f 97 = v97
          generalize f 98 = v98
          generalize f 92 = v92
          generalize f 99 = v99
          generalize f 100 = v100
          replace HL := Lib.hid (HL.out.next hb)
          replace HR8 := Lib.hid (Rd.below HR8.out hb)
          replace HR9 := Lib.hid (Rd.below HR9.out hb)
          replace HT7 := Lib.hid (HT7.out.below hb)
          replace HT15 := Lib.hid (HT15.out.below hb)
          replace HT17 := Lib.hid (HT17.out.below hb)
          replace HBR := Lib.hid (HBR.out.trans (hb.mono HBR.out.size))
          have HT20 := Lib.hid (TB.of_blk hblk)
          clear hb hp1 hp2 hp hblk e20 e21 h7r HN7
          go_upto_region 15 with fail
          obtain ⟨kda, nna, uua, sa, Aa, ma, ca, Ba, na, da, bsa, ha, hNa⟩ := HT7.out
          obtain ⟨z0a, z1a, z2a, z3a, z4a, z5a⟩ := cells6 ha
          have h7r := ha
          have HN7 := Lib.hid hNa
          clear hNa ha z0a z1a z2a z3a z4a z5a
          refine wp_region_each1P (n := 150) (ia := 9) (is_ := 10) [102, 103, 104, 105, 106, 107, 101, 108, 109, 22, 23] (pp15 P7 i kda nna uua sa Aa ma ca Ba na da A9 c9 q E ek) (blkT E) (by kernel_rfl) (by kernel_rfl) rfl (by kernel_rfl) (pp15_st P7 i kda nna uua sa Aa ma ca Ba na da A9 c9 q E ek) (blkT_st E) ?_ rfl rfl rfl (fun a w K hK => opwp_allocN rfl a w K hK) (fun _ _ => rfl) (fun w => heap_alloc_new _ _) rfl rfl ?_ (by kernel_rfl) ?_ ?_
          · intro b hb t ht
            unfold pp15
            split
            · rfl
            · rfl
            · rfl
            · exact absurd rfl (ht 0 _ rfl)
            · exact absurd rfl (ht 1 _ rfl)
            · exact absurd rfl (ht 2 _ rfl)
            · exact absurd rfl (ht 3 _ rfl)
            · exact absurd rfl (ht 4 _ rfl)
            · exact absurd rfl (ht 5 _ rfl)
            · exact absurd rfl (ht 6 _ rfl)
            · exact absurd rfl (ht 7 _ rfl)
            · exact absurd rfl (ht 8 _ rfl)
            · exact absurd rfl (ht 9 _ rfl)
            · exact absurd rfl (ht 11 _ rfl)
            · trivial
          · intro b a w hB hb1 hb2 hk hblk
            refine ⟨rfl, ?_⟩
            have ep : a.eval (.tmp 22) = .pointer (some ⟨b, 0, none⟩) := hk 22 (by decide)
            obtain ⟨kd', nn', uu', s', A', m', c', A2', m2', c2', bs', ev, hn, hbn⟩ : NVp w E b (a.eval (.tmp 108)) := hk 108 (by decide)
            refine opwp_storeN rfl rfl ep ev hblk ?_
            intro w' q1 q2 q3 q4
            exact ⟨rfl, q2, q3, q4 ws hb1 hB, kd', nn', uu', s', A', m', c', A2', m2', c2', bs', q1, hn.ext q2 hbn⟩
          · intro jq oq hjq hne1 hne2
            match jq, hjq, hne1, hne2 with
            | 0, hjq, _, _ =>
              simp only [List.getElem?_toArray, List.getElem?_cons_zero, List.getElem?_cons_succ, Option.some.injEq] at hjq
              subst hjq
              intro B a w hB hb hk
              obtain ⟨b0, hb0⟩ := hB
              have e7 : a.eval (.tmp 7) = .pointer (some ⟨P7, 0, none⟩) := hk b0 hb0 7 (by decide)
              refine ⟨rfl, opwp_load6 rfl e7 (below_row h7r hb) ?_⟩
              exact ⟨Below.refl _ _, _, rfl, fun d hd b _ _ => by cases hd; rfl⟩
            | 1, hjq, _, _ =>
              simp only [List.getElem?_toArray, List.getElem?_cons_zero, List.getElem?_cons_succ, Option.some.injEq] at hjq
              subst hjq
              intro B a w hB hb hk
              obtain ⟨b0, hb0⟩ := hB
              have e9 : a.eval (.tmp 9) = .slice A9 q.length c9 := hk b0 hb0 9 (by decide)
              refine ⟨rfl, opwp_move rfl e9 ?_⟩
              exact ⟨Below.refl _ _, _, rfl, fun d hd b _ _ => by cases hd; rfl⟩
            | 2, hjq, _, _ =>
              simp only [List.getElem?_toArray, List.getElem?_cons_zero, List.getElem?_cons_succ, Option.some.injEq] at hjq
              subst hjq
              intro B a w hB hb hk
              obtain ⟨b0, hb0⟩ := hB
              have e19 : a.eval (.tmp 19) = .int .i64 (i : Nat) := hk b0 hb0 19 (by decide)
              refine ⟨rfl, opwp_move rfl e19 ?_⟩
              exact ⟨Below.refl _ _, _, rfl, fun d hd b _ _ => by cases hd; rfl⟩
            | 3, hjq, _, _ =>
              simp only [List.getElem?_toArray, List.getElem?_cons_zero, List.getElem?_cons_succ, Option.some.injEq] at hjq
              subst hjq
              intro B a w hB hb hk
              obtain ⟨b0, hb0⟩ := hB
              have e104 : a.eval (.tmp 104) = .int .i64 (i : Nat) := hk b0 hb0 104 (by decide)
              refine ⟨rfl, opwp_add1 rfl e104 (by omega) ?_⟩
              exact ⟨Below.refl _ _, _, rfl, fun d hd b _ _ => by cases hd; rfl⟩
            | 4, hjq, _, _ =>
              simp only [List.getElem?_toArray, List.getElem?_cons_zero, List.getElem?_cons_succ, Option.some.injEq] at hjq
              subst hjq
              intro B a w hB hb hk
              obtain ⟨b0, hb0⟩ := hB
              have e103 : a.eval (.tmp 103) = .slice A9 q.length c9 := hk b0 hb0 103 (by decide)
              have e105 : a.eval (.tmp 105) = .int .i64 ((i + 1 : Nat) : Int) := hk b0 hb0 105 (by decide)
              refine ⟨rfl, opwp_slTo rfl e103 e105 (by omega) (by omega) hcap9 ?_⟩
              exact ⟨Below.refl _ _, _, rfl, fun d hd b _ _ => by cases hd; rfl⟩
            | 5, hjq, _, _ =>
              simp only [List.getElem?_toArray, List.getElem?_cons_zero, List.getElem?_cons_succ, Option.some.injEq] at hjq
              subst hjq
              intro B a w hB hb hk
              obtain ⟨b0, hb0⟩ := hB
              have e102 : a.eval (.tmp 102) = .agg #[.int .i64 kda, .int .i64 nna, .int .u64 uua, .string sa, .slice Aa ma ca, .slice Ba na da] := hk b0 hb0 102 (by decide)
              have e106 : a.eval (.tmp 106) = .slice A9 (i + 1) c9 := hk b0 hb0 106 (by decide)
              refine ⟨rfl, opwp_call (fun v w' => Below w.heap.size w w' ∧ ∀ b, B b → (b < w.heap.size ∨ w'.heap.size ≤ b) → SVp w' E ek b v) (exec_call [a.eval (.tmp 102), a.eval (.tmp 106)] Tryz.func22 (by kernel_rfl) rfl rfl rfl) ?_ ?_⟩
              · rw [e102, e106]
                have hlen : (q.take (i + 1)).length = i + 1 := by rw [List.length_take]; omega
                have hg := get_any D (q.take (i + 1)) w _ _ _ _ _ _ A9 c9 (RRep.below hb _ _ (NRep.reads _ _ _ HN7.out)) HSD.out (by rw [hlen]; exact take_rd (Rd.below HR9.out hb) (i + 1) (by omega))
                rw [hlen, HGE.out] at hg
                refine hg.mono ?_
                rintro e w' ⟨⟨v, rfl, hf⟩, h⟩
                exact ⟨_, rfl, h, fun b _ hbb => ⟨v, rfl, fresh_nvp hf hbb⟩⟩
              · rintro v w' ⟨h, hv⟩
                exact ⟨h, _, rfl, fun d hd b hbB hbb => by cases hd; exact hv b hbB hbb⟩
            | 6, hjq, _, _ =>
              simp only [List.getElem?_toArray, List.getElem?_cons_zero, List.getElem?_cons_succ, Option.some.injEq] at hjq
              subst hjq
              intro B a w hB hb hk
              obtain ⟨b0, hb0⟩ := hB
              have h0 : ∀ b, B b → SVp w E ek b (a.eval (.tmp 107)) := fun b hb => hk b hb 107 (by decide)
              refine ⟨rfl, opwp_move rfl rfl ?_⟩
              exact ⟨Below.refl _ _, _, rfl, fun d hd b hbB _ => by cases hd; exact h0 b hbB⟩
            | 7, hjq, _, _ =>
              simp only [List.getElem?_toArray, List.getElem?_cons_zero, List.getElem?_cons_succ, Option.some.injEq] at hjq
              subst hjq
              intro B a w hB hb hk
              obtain ⟨b0, hb0⟩ := hB
              have h0 : ∀ b, B b → SVp w E ek b (a.eval (.tmp 101)) := fun b hb => hk b hb 101 (by decide)
              obtain ⟨u, eu, -⟩ := h0 b0 hb0
              refine ⟨rfl, opwp_ext u rfl eu rfl ?_⟩
              refine ⟨Below.refl _ _, _, rfl, fun d hd b hbB _ => ?_⟩
              cases hd
              obtain ⟨u', eu', hu⟩ := h0 b hbB
              rw [eu] at eu'
              cases eu'
              exact hu
            | 8, hjq, _, _ =>
              simp only [List.getElem?_toArray, List.getElem?_cons_zero, List.getElem?_cons_succ, Option.some.injEq] at hjq
              subst hjq
              intro B a w hB hb hk
              obtain ⟨b0, hb0⟩ := hB
              obtain ⟨u, eu, -⟩ : SVp w E ek b0 (a.eval (.tmp 101)) := hk b0 hb0 101 (by decide)
              refine ⟨rfl, opwp_ext (.int .i64 ek) rfl eu rfl ?_⟩
              exact ⟨Below.refl _ _, _, rfl, fun d hd b _ _ => by cases hd; rfl⟩
            | 9, hjq, h, _ => exact absurd rfl h
            | 10, hjq, _, h => exact absurd rfl h
            | 11, hjq, _, _ =>
              simp only [List.getElem?_toArray, List.getElem?_cons_zero, List.getElem?_cons_succ, Option.some.injEq] at hjq
              subst hjq
              intro B a w hB hb hk
              obtain ⟨b0, hb0⟩ := hB
              have e109 : a.eval (.tmp 109) = .int .i64 ek := hk b0 hb0 109 (by decide)
              refine ⟨rfl, opwp_assign rfl e109 ?_⟩
              exact ⟨Below.refl _ _, _, rfl, fun d hd b _ _ => by cases hd; rfl⟩
            | kq + 12, hjq, _, _ => cases hjq
          rintro P22 f wt hb hp1 hp2 hp hblk
          have e22 : f 22 = .pointer (some ⟨P22, 0, none⟩) := hp 22 (by decide)
          have e23 : f 23 = .int .i64 ek := hp 23 (by decide)
          simp only [puts, List.foldl, Act.put, List.setIfInBounds_toArray, List.set_cons_zero, List.set_cons_succ, e22, e23]
          generalize f 102 = v102
          generalize f 103 = v103
          generalize f 104 = v104
          generalize f 105 = v105
          generalize f 106 = v106
          generalize f 107 = v107
          generalize f 101 = v101
          generalize f 108 = v108
          generalize f 109 = v109
          replace HL := Lib.hid (HL.out.next hb)
          replace HR8 := Lib.hid (Rd.below HR8.out hb)
          replace HR9 := Lib.hid (Rd.below HR9.out hb)
          replace HT7 := Lib.hid (HT7.out.below hb)
          replace HT15 := Lib.hid (HT15.out.below hb)
          replace HT17 := Lib.hid (HT17.out.below hb)
          replace HBR := Lib.hid (HBR.out.trans (hb.mono HBR.out.size))
          replace HT20 := Lib.hid (HT20.out.below hb)
          have HT22 := Lib.hid (TB.of_blk hblk)
          clear hb hp1 hp2 hp hblk e22 e23 h7r HN7
          by_cases he0 : ek = 0
          · subst he0
            obtain ⟨k0, k1, k2, hk⟩ : ∃ k0 k1 k2, p[i] = (k0, k1, k2) := ⟨_, _, _, rfl⟩
            obtain ⟨j0, j1, j2, hj⟩ : ∃ j0 j1 j2, q[i] = (j0, j1, j2) := ⟨_, _, _, rfl⟩
            obtain ⟨gp, op, hA8, hgp, p0, p1, p2⟩ := step_cells HR8.out i h1 hk
            obtain ⟨gq, oq, hA9, hgq, q0, q1, q2⟩ := step_cells HR9.out i h2 hj
            subst hA8 hA9
            have hip : i < p.length := h1
            have hiq : i < q.length := h2
            obtain ⟨kdc, nnc, uuc, sc, Ac, mc, cc, Bc, nc, dc, bsc, h20, hNc⟩ := HT20.out
            obtain ⟨kdd, nnd, uud, sd, Ad, md, cd, Bd, nd, dd, bsd, h22, hNd⟩ := HT22.out
            have HN20 := Lib.hid hNc
            have HN22 := Lib.hid hNd
            clear hNc hNd hk hj
            go_upto_region 20 with fail
            refine wp_reg_via [123, 124, 125, 126, 127, 128, 129, 130, 131, 132, 133, 134, 135, 136, 137] (fun f => ∃ r : Bool, f 137 = .bool r ∧ (r = true → getR X q = getR D q)) ?_ ?_
            · by_cases hne0 : (k0, k1, k2) = (j0, j1, j2)
              · have hne : (!decide ((k0, k1, k2) = (j0, j1, j2))) = false := by simp [hne0]
                refine wp_region_each2P (n := 150) [123, 124, 125, 126, 127, 128, 129, 130, 131, 132, 133, 134, 135, 136, 137] (pp20a i P20 P22 kdc nnc uuc sc Ac mc cc Bc nc dc kdd nnd uud sd Ad md cd Bd nd dd gp op p.length c8 gq oq q.length c9 k0 k1 k2 j0 j1 j2) (by kernel_rfl) (by kernel_rfl) rfl (by kernel_rfl) (pp20a_st i P20 P22 kdc nnc uuc sc Ac mc cc Bc nc dc kdd nnd uud sd Ad md cd Bd nd dd gp op p.length c8 gq oq q.length c9 k0 k1 k2 j0 j1 j2) ?_ ?_ ?_
                · intro b hb t ht
                  unfold pp20a
                  split
                  · rfl
                  · rfl
                  · rfl
                  · rfl
                  · rfl
                  · exact absurd rfl (ht 0 _ rfl)
                  · exact absurd rfl (ht 1 _ rfl)
                  · exact absurd rfl (ht 2 _ rfl)
                  · exact absurd rfl (ht 3 _ rfl)
                  · exact absurd rfl (ht 4 _ rfl)
                  · exact absurd rfl (ht 5 _ rfl)
                  · exact absurd rfl (ht 6 _ rfl)
                  · exact absurd rfl (ht 7 _ rfl)
                  · exact absurd rfl (ht 8 _ rfl)
                  · exact absurd rfl (ht 9 _ rfl)
                  · exact absurd rfl (ht 14 _ rfl)
                  · trivial
                · intro jq oq hjq
                  match jq, hjq with
                  | 0, hjq =>
                    simp only [List.getElem?_toArray, List.getElem?_cons_zero, List.getElem?_cons_succ, Option.some.injEq] at hjq
                    subst hjq
                    refine OpOk.two ?_
                    intro B a w hB hb hk
                    obtain ⟨b0, hb0⟩ := hB
                    have e8 : a.eval (.tmp 8) = .slice (some ⟨gp, op, none⟩) p.length c8 := hk b0 hb0 8 (by decide)
                    refine ⟨rfl, opwp_move rfl e8 ?_⟩
                    exact ⟨Below.refl _ _, _, rfl, fun d hd b _ _ => by cases hd; rfl⟩
                  | 1, hjq =>
                    simp only [List.getElem?_toArray, List.getElem?_cons_zero, List.getElem?_cons_succ, Option.some.injEq] at hjq
                    subst hjq
                    refine OpOk.two ?_
                    intro B a w hB hb hk
                    obtain ⟨b0, hb0⟩ := hB
                    have e19 : a.eval (.tmp 19) = .int .i64 (i : Nat) := hk b0 hb0 19 (by decide)
                    refine ⟨rfl, opwp_move rfl e19 ?_⟩
                    exact ⟨Below.refl _ _, _, rfl, fun d hd b _ _ => by cases hd; rfl⟩
                  | 2, hjq =>
                    simp only [List.getElem?_toArray, List.getElem?_cons_zero, List.getElem?_cons_succ, Option.some.injEq] at hjq
                    subst hjq
                    refine OpOk.two ?_
                    intro B a w hB hb hk
                    obtain ⟨b0, hb0⟩ := hB
                    have e123 : a.eval (.tmp 123) = .slice (some ⟨gp, op, none⟩) p.length c8 := hk b0 hb0 123 (by decide)
                    have e124 : a.eval (.tmp 124) = .int .i64 (i : Nat) := hk b0 hb0 124 (by decide)
                    refine ⟨rfl, opwp_iaS rfl e123 e124 hip ?_⟩
                    exact ⟨Below.refl _ _, _, rfl, fun d hd b _ _ => by cases hd; rfl⟩
                  | 3, hjq =>
                    simp only [List.getElem?_toArray, List.getElem?_cons_zero, List.getElem?_cons_succ, Option.some.injEq] at hjq
                    subst hjq
                    refine OpOk.two ?_
                    intro B a w hB hb hk
                    obtain ⟨b0, hb0⟩ := hB
                    have e125 : a.eval (.tmp 125) = .pointer (some ⟨gp, op + i * 3, none⟩) := hk b0 hb0 125 (by decide)
                    refine ⟨rfl, opwp_ldP rfl e125 ((hb.cell (p := ⟨gp, op + i * 3, none⟩) hgp).trans p0) ((hb.cell (p := ⟨gp, op + i * 3 + 1, none⟩) hgp).trans p1) ((hb.cell (p := ⟨gp, op + i * 3 + 2, none⟩) hgp).trans p2) ?_⟩
                    exact ⟨Below.refl _ _, _, rfl, fun d hd b _ _ => by cases hd; rfl⟩
                  | 4, hjq =>
                    simp only [List.getElem?_toArray, List.getElem?_cons_zero, List.getElem?_cons_succ, Option.some.injEq] at hjq
                    subst hjq
                    refine OpOk.two ?_
                    intro B a w hB hb hk
                    obtain ⟨b0, hb0⟩ := hB
                    have e9 : a.eval (.tmp 9) = .slice (some ⟨gq, oq, none⟩) q.length c9 := hk b0 hb0 9 (by decide)
                    refine ⟨rfl, opwp_move rfl e9 ?_⟩
                    exact ⟨Below.refl _ _, _, rfl, fun d hd b _ _ => by cases hd; rfl⟩
                  | 5, hjq =>
                    simp only [List.getElem?_toArray, List.getElem?_cons_zero, List.getElem?_cons_succ, Option.some.injEq] at hjq
                    subst hjq
                    refine OpOk.two ?_
                    intro B a w hB hb hk
                    obtain ⟨b0, hb0⟩ := hB
                    have e19 : a.eval (.tmp 19) = .int .i64 (i : Nat) := hk b0 hb0 19 (by decide)
                    refine ⟨rfl, opwp_move rfl e19 ?_⟩
                    exact ⟨Below.refl _ _, _, rfl, fun d hd b _ _ => by cases hd; rfl⟩
                  | 6, hjq =>
                    simp only [List.getElem?_toArray, List.getElem?_cons_zero, List.getElem?_cons_succ, Option.some.injEq] at hjq
                    subst hjq
                    refine OpOk.two ?_
                    intro B a w hB hb hk
                    obtain ⟨b0, hb0⟩ := hB
                    have e127 : a.eval (.tmp 127) = .slice (some ⟨gq, oq, none⟩) q.length c9 := hk b0 hb0 127 (by decide)
                    have e128 : a.eval (.tmp 128) = .int .i64 (i : Nat) := hk b0 hb0 128 (by decide)
                    refine ⟨rfl, opwp_iaS rfl e127 e128 hiq ?_⟩
                    exact ⟨Below.refl _ _, _, rfl, fun d hd b _ _ => by cases hd; rfl⟩
                  | 7, hjq =>
                    simp only [List.getElem?_toArray, List.getElem?_cons_zero, List.getElem?_cons_succ, Option.some.injEq] at hjq
                    subst hjq
                    refine OpOk.two ?_
                    intro B a w hB hb hk
                    obtain ⟨b0, hb0⟩ := hB
                    have e129 : a.eval (.tmp 129) = .pointer (some ⟨gq, oq + i * 3, none⟩) := hk b0 hb0 129 (by decide)
                    refine ⟨rfl, opwp_ldP rfl e129 ((hb.cell (p := ⟨gq, oq + i * 3, none⟩) hgq).trans q0) ((hb.cell (p := ⟨gq, oq + i * 3 + 1, none⟩) hgq).trans q1) ((hb.cell (p := ⟨gq, oq + i * 3 + 2, none⟩) hgq).trans q2) ?_⟩
                    exact ⟨Below.refl _ _, _, rfl, fun d hd b _ _ => by cases hd; rfl⟩
                  | 8, hjq =>
                    simp only [List.getElem?_toArray, List.getElem?_cons_zero, List.getElem?_cons_succ, Option.some.injEq] at hjq
                    subst hjq
                    refine OpOk.two ?_
                    intro B a w hB hb hk
                    obtain ⟨b0, hb0⟩ := hB
                    have e126 : a.eval (.tmp 126) = .agg #[.string ⟨k0.toArray⟩, .int .i64 k1, .bool k2] := hk b0 hb0 126 (by decide)
                    have e130 : a.eval (.tmp 130) = .agg #[.string ⟨j0.toArray⟩, .int .i64 j1, .bool j2] := hk b0 hb0 130 (by decide)
                    refine ⟨rfl, opwp_neqS rfl e126 e130 ?_⟩
                    rw [hne]
                    exact ⟨Below.refl _ _, _, rfl, fun d hd b _ _ => by cases hd; rfl⟩
                  | 9, hjq =>
                    simp only [List.getElem?_toArray, List.getElem?_cons_zero, List.getElem?_cons_succ, Option.some.injEq] at hjq
                    subst hjq
                    refine OpOk.two ?_
                    intro B a w hB hb hk
                    obtain ⟨b0, hb0⟩ := hB
                    have e131 : a.eval (.tmp 131) = .bool false := hk b0 hb0 131 (by decide)
                    refine ⟨rfl, opwp_move rfl e131 ?_⟩
                    exact ⟨Below.refl _ _, _, rfl, fun d hd b _ _ => by cases hd; rfl⟩
                  | 10, hjq =>
                    simp only [List.getElem?_toArray, List.getElem?_cons_zero, List.getElem?_cons_succ, Option.some.injEq] at hjq
                    subst hjq
                    intro B a w hB hb hk
                    obtain ⟨b0, hb0⟩ := hB
                    have eg : a.eval (.tmp 132) = .bool false := hk b0 hb0 132 (by decide)
                    exact .inr ⟨unwanted_of rfl rfl eg (by decide), fun d hd b hb => by cases hd; trivial⟩
                  | 11, hjq =>
                    simp only [List.getElem?_toArray, List.getElem?_cons_zero, List.getElem?_cons_succ, Option.some.injEq] at hjq
                    subst hjq
                    intro B a w hB hb hk
                    obtain ⟨b0, hb0⟩ := hB
                    have eg : a.eval (.tmp 132) = .bool false := hk b0 hb0 132 (by decide)
                    exact .inr ⟨unwanted_of rfl rfl eg (by decide), fun d hd b hb => by cases hd; trivial⟩
                  | 12, hjq =>
                    simp only [List.getElem?_toArray, List.getElem?_cons_zero, List.getElem?_cons_succ, Option.some.injEq] at hjq
                    subst hjq
                    intro B a w hB hb hk
                    obtain ⟨b0, hb0⟩ := hB
                    have eg : a.eval (.tmp 132) = .bool false := hk b0 hb0 132 (by decide)
                    exact .inr ⟨unwanted_of rfl rfl eg (by decide), fun d hd b hb => by cases hd; trivial⟩
                  | 13, hjq =>
                    simp only [List.getElem?_toArray, List.getElem?_cons_zero, List.getElem?_cons_succ, Option.some.injEq] at hjq
                    subst hjq
                    intro B a w hB hb hk
                    obtain ⟨b0, hb0⟩ := hB
                    have eg : a.eval (.tmp 132) = .bool false := hk b0 hb0 132 (by decide)
                    exact .inr ⟨unwanted_of rfl rfl eg (by decide), fun d hd b hb => by cases hd; trivial⟩
                  | 14, hjq =>
                    simp only [List.getElem?_toArray, List.getElem?_cons_zero, List.getElem?_cons_succ, Option.some.injEq] at hjq
                    subst hjq
                    refine OpOk.two ?_
                    intro B a w hB hb hk
                    obtain ⟨b0, hb0⟩ := hB
                    have e132 : a.eval (.tmp 132) = .bool false := hk b0 hb0 132 (by decide)
                    refine ⟨rfl, opwp_pickC rfl e132 ?_⟩
                    exact ⟨Below.refl _ _, _, rfl, fun d hd b _ _ => by cases hd; rfl⟩
                  | kq + 15, hjq => cases hjq
                intro f w9 hB hp
                exact ⟨rfl, f, rfl, ⟨false, hp _ (Nat.le_refl _) 137 (by decide), fun h => by cases h⟩, hB⟩
              · have hne : (!decide ((k0, k1, k2) = (j0, j1, j2))) = true := by simp [hne0]
                obtain ⟨rr, hrr⟩ : ∃ rr : Bool, rr = true ↔ C = E := (Classical.em (C = E)).elim (fun h => ⟨true, by simp [h]⟩) (fun h => ⟨false, by simp [h]⟩)
                refine wp_region_each2P (n := 150) [123, 124, 125, 126, 127, 128, 129, 130, 131, 132, 133, 134, 135, 136, 137] (pp20b i P20 P22 kdc nnc uuc sc Ac mc cc Bc nc dc kdd nnd uud sd Ad md cd Bd nd dd gp op p.length c8 gq oq q.length c9 k0 k1 k2 j0 j1 j2 rr) (by kernel_rfl) (by kernel_rfl) rfl (by kernel_rfl) (pp20b_st i P20 P22 kdc nnc uuc sc Ac mc cc Bc nc dc kdd nnd uud sd Ad md cd Bd nd dd gp op p.length c8 gq oq q.length c9 k0 k1 k2 j0 j1 j2 rr) ?_ ?_ ?_
                · intro b hb t ht
                  unfold pp20b
                  split
                  · rfl
                  · rfl
                  · rfl
                  · rfl
                  · rfl
                  · exact absurd rfl (ht 0 _ rfl)
                  · exact absurd rfl (ht 1 _ rfl)
                  · exact absurd rfl (ht 2 _ rfl)
                  · exact absurd rfl (ht 3 _ rfl)
                  · exact absurd rfl (ht 4 _ rfl)
                  · exact absurd rfl (ht 5 _ rfl)
                  · exact absurd rfl (ht 6 _ rfl)
                  · exact absurd rfl (ht 7 _ rfl)
                  · exact absurd rfl (ht 8 _ rfl)
                  · exact absurd rfl (ht 9 _ rfl)
                  · exact absurd rfl (ht 10 _ rfl)
                  · exact absurd rfl (ht 11 _ rfl)
                  · exact absurd rfl (ht 12 _ rfl)
                  · exact absurd rfl (ht 13 _ rfl)
                  · exact absurd rfl (ht 14 _ rfl)
                  · trivial
                · intro jq oq hjq
                  match jq, hjq with
                  | 0, hjq =>
                    simp only [List.getElem?_toArray, List.getElem?_cons_zero, List.getElem?_cons_succ, Option.some.injEq] at hjq
                    subst hjq
                    refine OpOk.two ?_
                    intro B a w hB hb hk
                    obtain ⟨b0, hb0⟩ := hB
                    have e8 : a.eval (.tmp 8) = .slice (some ⟨gp, op, none⟩) p.length c8 := hk b0 hb0 8 (by decide)
                    refine ⟨rfl, opwp_move rfl e8 ?_⟩
                    exact ⟨Below.refl _ _, _, rfl, fun d hd b _ _ => by cases hd; rfl⟩
                  | 1, hjq =>
                    simp only [List.getElem?_toArray, List.getElem?_cons_zero, List.getElem?_cons_succ, Option.some.injEq] at hjq
                    subst hjq
                    refine OpOk.two ?_
                    intro B a w hB hb hk
                    obtain ⟨b0, hb0⟩ := hB
                    have e19 : a.eval (.tmp 19) = .int .i64 (i : Nat) := hk b0 hb0 19 (by decide)
                    refine ⟨rfl, opwp_move rfl e19 ?_⟩
                    exact ⟨Below.refl _ _, _, rfl, fun d hd b _ _ => by cases hd; rfl⟩
                  | 2, hjq =>
                    simp only [List.getElem?_toArray, List.getElem?_cons_zero, List.getElem?_cons_succ, Option.some.injEq] at hjq
                    subst hjq
                    refine OpOk.two ?_
                    intro B a w hB hb hk
                    obtain ⟨b0, hb0⟩ := hB
                    have e123 : a.eval (.tmp 123) = .slice (some ⟨gp, op, none⟩) p.length c8 := hk b0 hb0 123 (by decide)
                    have e124 : a.eval (.tmp 124) = .int .i64 (i : Nat) := hk b0 hb0 124 (by decide)
                    refine ⟨rfl, opwp_iaS rfl e123 e124 hip ?_⟩
                    exact ⟨Below.refl _ _, _, rfl, fun d hd b _ _ => by cases hd; rfl⟩
                  | 3, hjq =>
                    simp only [List.getElem?_toArray, List.getElem?_cons_zero, List.getElem?_cons_succ, Option.some.injEq] at hjq
                    subst hjq
                    refine OpOk.two ?_
                    intro B a w hB hb hk
                    obtain ⟨b0, hb0⟩ := hB
                    have e125 : a.eval (.tmp 125) = .pointer (some ⟨gp, op + i * 3, none⟩) := hk b0 hb0 125 (by decide)
                    refine ⟨rfl, opwp_ldP rfl e125 ((hb.cell (p := ⟨gp, op + i * 3, none⟩) hgp).trans p0) ((hb.cell (p := ⟨gp, op + i * 3 + 1, none⟩) hgp).trans p1) ((hb.cell (p := ⟨gp, op + i * 3 + 2, none⟩) hgp).trans p2) ?_⟩
                    exact ⟨Below.refl _ _, _, rfl, fun d hd b _ _ => by cases hd; rfl⟩
                  | 4, hjq =>
                    simp only [List.getElem?_toArray, List.getElem?_cons_zero, List.getElem?_cons_succ, Option.some.injEq] at hjq
                    subst hjq
                    refine OpOk.two ?_
                    intro B a w hB hb hk
                    obtain ⟨b0, hb0⟩ := hB
                    have e9 : a.eval (.tmp 9) = .slice (some ⟨gq, oq, none⟩) q.length c9 := hk b0 hb0 9 (by decide)
                    refine ⟨rfl, opwp_move rfl e9 ?_⟩
                    exact ⟨Below.refl _ _, _, rfl, fun d hd b _ _ => by cases hd; rfl⟩
                  | 5, hjq =>
                    simp only [List.getElem?_toArray, List.getElem?_cons_zero, List.getElem?_cons_succ, Option.some.injEq] at hjq
                    subst hjq
                    refine OpOk.two ?_
                    intro B a w hB hb hk
                    obtain ⟨b0, hb0⟩ := hB
                    have e19 : a.eval (.tmp 19) = .int .i64 (i : Nat) := hk b0 hb0 19 (by decide)
                    refine ⟨rfl, opwp_move rfl e19 ?_⟩
                    exact ⟨Below.refl _ _, _, rfl, fun d hd b _ _ => by cases hd; rfl⟩
                  | 6, hjq =>
                    simp only [List.getElem?_toArray, List.getElem?_cons_zero, List.getElem?_cons_succ, Option.some.injEq] at hjq
                    subst hjq
                    refine OpOk.two ?_
                    intro B a w hB hb hk
                    obtain ⟨b0, hb0⟩ := hB
                    have e127 : a.eval (.tmp 127) = .slice (some ⟨gq, oq, none⟩) q.length c9 := hk b0 hb0 127 (by decide)
                    have e128 : a.eval (.tmp 128) = .int .i64 (i : Nat) := hk b0 hb0 128 (by decide)
                    refine ⟨rfl, opwp_iaS rfl e127 e128 hiq ?_⟩
                    exact ⟨Below.refl _ _, _, rfl, fun d hd b _ _ => by cases hd; rfl⟩
                  | 7, hjq =>
                    simp only [List.getElem?_toArray, List.getElem?_cons_zero, List.getElem?_cons_succ, Option.some.injEq] at hjq
                    subst hjq
                    refine OpOk.two ?_
                    intro B a w hB hb hk
                    obtain ⟨b0, hb0⟩ := hB
                    have e129 : a.eval (.tmp 129) = .pointer (some ⟨gq, oq + i * 3, none⟩) := hk b0 hb0 129 (by decide)
                    refine ⟨rfl, opwp_ldP rfl e129 ((hb.cell (p := ⟨gq, oq + i * 3, none⟩) hgq).trans q0) ((hb.cell (p := ⟨gq, oq + i * 3 + 1, none⟩) hgq).trans q1) ((hb.cell (p := ⟨gq, oq + i * 3 + 2, none⟩) hgq).trans q2) ?_⟩
                    exact ⟨Below.refl _ _, _, rfl, fun d hd b _ _ => by cases hd; rfl⟩
                  | 8, hjq =>
                    simp only [List.getElem?_toArray, List.getElem?_cons_zero, List.getElem?_cons_succ, Option.some.injEq] at hjq
                    subst hjq
                    refine OpOk.two ?_
                    intro B a w hB hb hk
                    obtain ⟨b0, hb0⟩ := hB
                    have e126 : a.eval (.tmp 126) = .agg #[.string ⟨k0.toArray⟩, .int .i64 k1, .bool k2] := hk b0 hb0 126 (by decide)
                    have e130 : a.eval (.tmp 130) = .agg #[.string ⟨j0.toArray⟩, .int .i64 j1, .bool j2] := hk b0 hb0 130 (by decide)
                    refine ⟨rfl, opwp_neqS rfl e126 e130 ?_⟩
                    rw [hne]
                    exact ⟨Below.refl _ _, _, rfl, fun d hd b _ _ => by cases hd; rfl⟩
                  | 9, hjq =>
                    simp only [List.getElem?_toArray, List.getElem?_cons_zero, List.getElem?_cons_succ, Option.some.injEq] at hjq
                    subst hjq
                    refine OpOk.two ?_
                    intro B a w hB hb hk
                    obtain ⟨b0, hb0⟩ := hB
                    have e131 : a.eval (.tmp 131) = .bool true := hk b0 hb0 131 (by decide)
                    refine ⟨rfl, opwp_move rfl e131 ?_⟩
                    exact ⟨Below.refl _ _, _, rfl, fun d hd b _ _ => by cases hd; rfl⟩
                  | 10, hjq =>
                    simp only [List.getElem?_toArray, List.getElem?_cons_zero, List.getElem?_cons_succ, Option.some.injEq] at hjq
                    subst hjq
                    refine OpOk.two ?_
                    intro B a w hB hb hk
                    obtain ⟨b0, hb0⟩ := hB
                    have e20 : a.eval (.tmp 20) = .pointer (some ⟨P20, 0, none⟩) := hk b0 hb0 20 (by decide)
                    have eg : a.eval (.tmp 132) = .bool true := hk b0 hb0 132 (by decide)
                    refine ⟨wanted_of rfl rfl eg, opwp_load6 rfl e20 (below_row h20 hb) ?_⟩
                    exact ⟨Below.refl _ _, _, rfl, fun d hd b _ _ => by cases hd; rfl⟩
                  | 11, hjq =>
                    simp only [List.getElem?_toArray, List.getElem?_cons_zero, List.getElem?_cons_succ, Option.some.injEq] at hjq
                    subst hjq
                    refine OpOk.two ?_
                    intro B a w hB hb hk
                    obtain ⟨b0, hb0⟩ := hB
                    have e22 : a.eval (.tmp 22) = .pointer (some ⟨P22, 0, none⟩) := hk b0 hb0 22 (by decide)
                    have eg : a.eval (.tmp 132) = .bool true := hk b0 hb0 132 (by decide)
                    refine ⟨wanted_of rfl rfl eg, opwp_load6 rfl e22 (below_row h22 hb) ?_⟩
                    exact ⟨Below.refl _ _, _, rfl, fun d hd b _ _ => by cases hd; rfl⟩
                  | 12, hjq =>
                    simp only [List.getElem?_toArray, List.getElem?_cons_zero, List.getElem?_cons_succ, Option.some.injEq] at hjq
                    subst hjq
                    refine OpOk.two ?_
                    intro B a w hB hb hk
                    obtain ⟨b0, hb0⟩ := hB
                    have e133 : a.eval (.tmp 133) = .agg #[.int .i64 kdc, .int .i64 nnc, .int .u64 uuc, .string sc, .slice Ac mc cc, .slice Bc nc dc] := hk b0 hb0 133 (by decide)
                    have e134 : a.eval (.tmp 134) = .agg #[.int .i64 kdd, .int .i64 nnd, .int .u64 uud, .string sd, .slice Ad md cd, .slice Bd nd dd] := hk b0 hb0 134 (by decide)
                    have eg : a.eval (.tmp 132) = .bool true := hk b0 hb0 132 (by decide)
                    refine ⟨wanted_of rfl rfl eg, opwp_call (fun v w' => v = .bool rr ∧ Below w.heap.size w w') (exec_call [a.eval (.tmp 133), a.eval (.tmp 134)] Tryz.func28 (by kernel_rfl) rfl rfl rfl) ?_ ?_⟩
                    · rw [e133, e134]
                      refine (same_any C E w w _ _ _ _ _ _ _ _ _ _ _ _ (Below.refl _ _) (RRep.below hb _ _ (NRep.reads _ _ _ HN20.out)) (RRep.below hb _ _ (NRep.reads _ _ _ HN22.out))).mono ?_
                      rintro e w' ⟨bb, rfl, hiff, h⟩
                      obtain rfl : bb = rr := by rw [Bool.eq_iff_iff, hiff, hrr]
                      exact ⟨_, rfl, rfl, h⟩
                    · rintro v w' ⟨rfl, h⟩
                      exact ⟨h, _, rfl, fun d hd b _ _ => by cases hd; rfl⟩
                  | 13, hjq =>
                    simp only [List.getElem?_toArray, List.getElem?_cons_zero, List.getElem?_cons_succ, Option.some.injEq] at hjq
                    subst hjq
                    refine OpOk.two ?_
                    intro B a w hB hb hk
                    obtain ⟨b0, hb0⟩ := hB
                    have e135 : a.eval (.tmp 135) = .bool rr := hk b0 hb0 135 (by decide)
                    have eg : a.eval (.tmp 132) = .bool true := hk b0 hb0 132 (by decide)
                    refine ⟨wanted_of rfl rfl eg, opwp_not rfl e135 ?_⟩
                    exact ⟨Below.refl _ _, _, rfl, fun d hd b _ _ => by cases hd; rfl⟩
                  | 14, hjq =>
                    simp only [List.getElem?_toArray, List.getElem?_cons_zero, List.getElem?_cons_succ, Option.some.injEq] at hjq
                    subst hjq
                    refine OpOk.two ?_
                    intro B a w hB hb hk
                    obtain ⟨b0, hb0⟩ := hB
                    have e132 : a.eval (.tmp 132) = .bool true := hk b0 hb0 132 (by decide)
                    have e136 : a.eval (.tmp 136) = .bool !rr := hk b0 hb0 136 (by decide)
                    refine ⟨rfl, opwp_pickT rfl e132 e136 ?_⟩
                    exact ⟨Below.refl _ _, _, rfl, fun d hd b _ _ => by cases hd; rfl⟩
                  | kq + 15, hjq => cases hjq
                intro f w9 hB hp
                refine ⟨rfl, f, rfl, ⟨!rr, hp _ (Nat.le_refl _) 137 (by decide), fun h => ?_⟩, hB⟩
                have hCE : C ≠ E := fun h' => by rw [hrr.2 h'] at h; cases h
                have hEE := getR_inv (show (getR D (q.take (i + 1))).2 = 0 by rw [HGE.out])
                rw [HGE.out] at hEE
                have ho := HOT.out i h1 h2 (by rw [HC.out, hEE]; exact fun h' => hCE (Option.some.inj h')) (by rw [hEE]; exact fun h' => by cases h')
                unfold getR
                rw [ho]
            intro f w9 hb hS
            obtain ⟨r, e137, hr⟩ := hS
            simp only [puts, List.foldl, Act.put, List.setIfInBounds_toArray, List.set_cons_zero, List.set_cons_succ, e137]
            generalize f 123 = v123
            generalize f 124 = v124
            generalize f 125 = v125
            generalize f 126 = v126
            generalize f 127 = v127
            generalize f 128 = v128
            generalize f 129 = v129
            generalize f 130 = v130
            generalize f 131 = v131
            generalize f 132 = v132
            generalize f 133 = v133
            generalize f 134 = v134
            generalize f 135 = v135
            generalize f 136 = v136
            replace HL := Lib.hid (HL.out.next hb)
            replace HR8 := Lib.hid (Rd.below HR8.out hb)
            replace HR9 := Lib.hid (Rd.below HR9.out hb)
            replace HT7 := Lib.hid (HT7.out.below hb)
            replace HT15 := Lib.hid (HT15.out.below hb)
            replace HT17 := Lib.hid (HT17.out.below hb)
            replace HBR := Lib.hid (HBR.out.trans (hb.mono HBR.out.size))
            replace HT20 := Lib.hid (HT20.out.below hb)
            replace HT22 := Lib.hid (HT22.out.below hb)
            clear hb e137 h20 h22 hgp hgq p0 p1 p2 q0 q1 q2 HN20 HN22 HT20 HT22
            cases r with
            | false =>
              have HFIN := Lib.hid HBR.out
              go_wp2_with fail
              go_roundw
              case rel => exact ⟨i + 1, by omega, by go_num, HFIN.out⟩
              case measure => simp only [intOf]; omega
            | true =>
              obtain ⟨hh1, hh2⟩ := pair_eq (HHT.out.symm.trans ((hr rfl).trans HGT.out))
              clear hr HHT HGT
              subst hh1 hh2
              have heq : (he == he) = true := beq_self_eq_true _
              obtain ⟨kda, nna, uua, sa, Aa, ma, ca, Ba, na, da, bsa, ha, hNa⟩ := HT15.out
              obtain ⟨z0a, z1a, z2a, z3a, z4a, z5a⟩ := cells6 ha
              obtain ⟨kdb, nnb, uub, sb, Ab, mb, cb, Bb, nb, db, bsb, hb, hNb⟩ := HT17.out
              obtain ⟨z0b, z1b, z2b, z3b, z4b, z5b⟩ := cells6 hb
              have HSA := Lib.hid (same_any HT HT w9 w9 _ _ _ _ _ _ _ _ _ _ _ _ (Below.refl _ _) (NRep.reads _ _ _ hNa) (NRep.reads _ _ _ hNb))
              clear hNa hNb
              go_wp2_with fail
              refine (HSA.out).mono ?_
              rintro e w16 ⟨bb, rfl, hiff, hb⟩
              replace HL := Lib.hid (HL.out.next hb)
              replace HR8 := Lib.hid (Rd.below HR8.out hb)
              replace HR9 := Lib.hid (Rd.below HR9.out hb)
              replace HT7 := Lib.hid (HT7.out.below hb)
              replace HT15 := Lib.hid (HT15.out.below hb)
              replace HT17 := Lib.hid (HT17.out.below hb)
              replace HBR := Lib.hid (HBR.out.trans (hb.mono HBR.out.size))
              obtain rfl : bb = true := hiff.2 rfl
              clear hb hiff ha z0a z1a z2a z3a z4a z5a z0b z1b z2b z3b z4b z5b HSA
              have HW := Lib.hid (works_any w w16 HL.out)
              go_wp2_with fail
              refine HW.out.mono ?_
              rintro e w17 ⟨rfl, h5⟩
              replace HL := Lib.hid h5
              clear h5 HW
              go_wp2_with fail
              go_ret
              exact ⟨rfl, by rw [HBB.out]; exact HL.out.b⟩
          · have he0' : (ek != 0) = true := by simpa using he0
            obtain ⟨hn1, hn2⟩ := HNO.out i h1 h2 (getR_inv_no (show (getR D (q.take (i + 1))).2 ≠ 0 by rw [HGE.out]; exact he0))
            obtain ⟨-, hg80⟩ := pair_eq (HGT.out.symm.trans (getR_no hn1))
            obtain ⟨-, hh80⟩ := pair_eq (HHT.out.symm.trans (getR_no hn2))
            clear hn1 hn2 he0
            have hge : (ge == 80) = true := by simp [hg80]
            have hhe : (he == 80) = true := by simp [hh80]
            clear hg80 hh80
            have HW := Lib.hid (works_any w wt HL.out)
            go_wp2_with fail
            refine HW.out.mono ?_
            rintro e w16 ⟨rfl, h5⟩
            replace HL := Lib.hid h5
            clear h5 HW
            go_wp2_with fail
            go_ret
            exact ⟨rfl, by rw [HBB.out]; exact HL.out.b⟩
        · have h2' : ¬ (i : Int) < (q.length : Int) := by omega
          have HW := Lib.hid (works_any w wr HL.out)
          go_wp2_with fail
          refine HW.out.mono ?_
          rintro e w16 ⟨rfl, h5⟩
          replace HL := Lib.hid h5
          clear h5 HW
          go_wp2_with fail
          go_ret
          exact ⟨rfl, by rw [HBB.out]; exact HL.out.b⟩
      · have h1' : ¬ (i : Int) < (p.length : Int) := by omega
        have HW := Lib.hid (works_any w wr HL.out)
        go_wp2_with fail
        refine HW.out.mono ?_
        rintro e w16 ⟨rfl, h5⟩
        replace HL := Lib.hid h5
        clear h5 HW
        go_wp2_with fail
        go_ret
        exact ⟨rfl, by rw [HBB.out]; exact HL.out.b⟩
  · have h0' : (er != 0) = true := by simpa using h0
    have hXz : X = zT := by have h := setR_err (T := D) (N := M) (p := p) (by rw [HSET.out]; exact h0); rw [HSET.out] at h; exact h
    clear h0 HSET
    subst hXz
    obtain ⟨kda, nna, uua, sa, Aa, ma, ca, Ba, na, da, bsa, ha, hNa⟩ := HT11.out
    obtain ⟨z0a, z1a, z2a, z3a, z4a, z5a⟩ := cells6 ha
    have HSA := Lib.hid (same_any zT zT w6 w6 _ _ _ _ _ _ _ _ _ _ _ _ (Below.refl _ _) (NRep.reads _ _ _ hNa) (NRep.reads _ _ _ (nrep_zero w6)))
    clear hNa
    go_wp2_with fail
    refine (HSA.out).mono ?_
    rintro e w7 ⟨bb, rfl, hiff, hb⟩
    replace HL := Lib.hid (HL.out.next hb)
    replace HR8 := Lib.hid (Rd.below HR8.out hb)
    replace HR9 := Lib.hid (Rd.below HR9.out hb)
    replace HT7 := Lib.hid (HT7.out.below hb)
    replace HT10 := Lib.hid (HT10.out.below hb)
    replace HT11 := Lib.hid (HT11.out.below hb)
    obtain rfl : bb = true := hiff.2 rfl
    clear hb hiff ha z0a z1a z2a z3a z4a z5a HSA
    have HW := Lib.hid (works_any w w7 HL.out)
    go_wp2_with fail
    refine HW.out.mono ?_
    rintro e w8 ⟨rfl, h5⟩
    replace HL := Lib.hid h5
    clear h5 HW
    go_wp2_with fail
    go_ret
    exact ⟨rfl, by rw [HBB.out]; exact HL.out.b⟩
end
open Go.ChangeShapes Go.WideShapes Go.ChangeAt
section
variable {H : Type} {enc : TypeId × Value → H} {w : World} {held : Bool}
set_option maxRecDepth 100000 in
theorem slice_cell {base fuel : Nat} {c : Value} {x : DataW H × List MemPlace} (h : DataW.trod enc Tryz.prog w base (fun _ => true) held fuel 22 [c] = some x) : ∃ a n k, c = .slice a n k := by
  rcases DataW.trod_slice Tryz.underlying22 h with ⟨hcs, _⟩ | ⟨x, l, c, elems, rest, n, _, hcs, _⟩
  · simp only [List.cons.injEq, and_true] at hcs
    exact ⟨_, _, _, hcs⟩
  · simp only [List.cons.injEq, and_true] at hcs
    exact ⟨_, _, _, hcs⟩
set_option maxRecDepth 100000 in
/-- A pair of paths that came in. -/
theorem pair_in {r : Reach} {b0 : Nat} {v : Value} {d : DataW H} {p : List MemPlace} (hv : Value.okWide Tryz.prog w r b0 47 v) (h : DataW.Trod enc Tryz.prog w 0 (fun _ => true) held 47 v d p) :
    ∃ a c b e q r, v = .agg #[.slice a (List.length q) c, .slice b (List.length r) e] ∧ StepRd w (.slice a q.length c) q ∧ StepRd w (.slice b r.length e) r ∧ StepsOk q ∧ StepsOk r := by
  have hv' : ∃ cs : Array Value, v = .agg cs ∧ cs.size = Tryz.prog.cellsOf 47 := by
    simp only [Value.okWide, Tryz.underlying47] at hv
    obtain ⟨cs, h1, h2, _⟩ := hv
    exact ⟨cs, h1, h2⟩
  obtain ⟨cs, rfl, hs⟩ := hv'
  have hco : Tryz.prog.cellsOf 47 = 2 := by kernel_rfl
  have hc1 : Tryz.prog.cellsOf 22 = 1 := by kernel_rfl
  rw [hco] at hs
  obtain ⟨l⟩ := cs
  have hl : l.length = 2 := by simpa using hs
  match l, hl with
  | [n0, n1], _ =>
    obtain ⟨fuel, hf⟩ := h
    have hf' : DataW.trod enc Tryz.prog w 0 (fun _ => true) held fuel 47 [n0, n1] = some (d, p) := hf
    obtain ⟨xs, m, rfl, -, -, hl2, hel⟩ := DataW.trod_array Tryz.underlying47 hf'
    have g0 := hel 0 (by omega)
    have g1 := hel 1 (by omega)
    rw [hc1] at g0 g1
    have y0 : xs[0]? = some (xs[0]'(by omega)) := List.getElem?_eq_getElem (by omega)
    have y1 : xs[1]? = some (xs[1]'(by omega)) := List.getElem?_eq_getElem (by omega)
    rw [y0] at g0
    rw [y1] at g1
    simp only [List.drop_succ_cons, List.drop_zero, List.take_succ_cons, List.take_zero, Nat.zero_mul, Nat.one_mul] at g0 g1
    obtain ⟨a, n, c, rfl⟩ := slice_cell g0
    obtain ⟨b, k, e, rfl⟩ := slice_cell g1
    obtain ⟨q, rfl, hr, hsq, -⟩ := steps_row (p := xs[0].2) (d := xs[0].1) ⟨m, g0⟩
    obtain ⟨r, rfl, hr2, hsr, -⟩ := steps_row (p := xs[1].2) (d := xs[1].1) ⟨m, g1⟩
    exact ⟨a, c, b, e, q, r, rfl, hr, hr2, hsq, hsr⟩
end
end Go.Proofs.YtlblddeemkefkaaGreatDoor
