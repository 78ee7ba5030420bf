/- A region that draws its order, with some operations that write, make memory or may panic: a predicate on what is done. Over any program. -/
import Derived.Test.YtccmhhmdenfecaaGreatDoorJc
namespace Go.Proofs.YtccmhhmdenfecaaGreatDoor
set_option linter.unusedVariables false
set_option linter.unusedSimpArgs false
set_option linter.unusedSectionVars false
section
open Go.RowKit
variable {P : Program} {ops : Array Oper} {Q : Exit → Act → World → Prop}
/-- Behind an operation of the stages: its slot is set, nothing else of the frame. -/
theorem wp_region_stage {id n : Nat} {a0 : Act} {w0 : World} (light : Tmp → Option Value) (sp : List Nat) (St : (Nat → Bool) → (Tmp → Value) → World → Prop)
    (hm : P.follows .mixedOrders = true) (hB : eachB ops n = true) (hn : a0.tmps.size = n)
    (hsc : ∀ (D D' : Nat → Bool) (ev ev' : Tmp → Value) (w : World), (∀ i ∈ sp, D i = D' i) → (∀ t, light t = none → ev t = ev' t) → St D ev w → St D' ev' w)
    (h00 : ∀ t V, light t = some V → (∀ (j : Nat) (o : Oper), ops[j]? = some o → o.dst ≠ some t) → a0.eval (.tmp t) = V)
    (h0 : St (fun _ => false) (fun t => a0.eval (.tmp t)) { w0 with drawn := w0.drawn + 1 })
    (hlight : ∀ (i : Nat) (o : Oper), ops[i]? = some o → i ∉ sp → ∃ d V, o.dst = some d ∧ light d = some V ∧ ∀ (D : Nat → Bool) (a : Act) (w : World), St D (fun t => a.eval (.tmp t)) w → (∀ e ∈ o.after, Region.binds .any e = true → D e.on = true) → D i = false → (∀ (j : Nat) (oj : Oper), ops[j]? = some oj → D j = true → ∀ e ∈ oj.after, Region.binds .any e = true → D e.on = true) → 
      (∀ t ∈ o.looksAt ops, ∀ V, light t = some V → a.eval (.tmp t) = V) → Region.wanted o (yielded ops a.tmps) = true ∧ o.wp P a w (fun a' w' => a' = a.put o.dst V ∧ w' = w) Q)
    (hspd : ∀ (i : Nat) (o : Oper), ops[i]? = some o → i ∈ sp → ∀ d, o.dst = some d → light d = none)
    (hspecial : ∀ (i : Nat) (o : Oper), ops[i]? = some o → i ∈ sp → ∀ (D : Nat → Bool) (a : Act) (w : World), a.defers = a0.defers → St D (fun t => a.eval (.tmp t)) w → (∀ e ∈ o.after, Region.binds .any e = true → D e.on = true) → D i = false → (∀ (j : Nat) (oj : Oper), ops[j]? = some oj → D j = true → ∀ e ∈ oj.after, Region.binds .any e = true → D e.on = true) → 
      (∀ t ∈ o.looksAt ops, ∀ V, light t = some V → a.eval (.tmp t) = V) → Region.wanted o (yielded ops a.tmps) = true ∧
        o.wp P a w (fun a' w' => ∃ v, a' = a.put o.dst v ∧ St (fun j => if j = i then true else D j) (fun t => if o.dst = some t then v else a.eval (.tmp t)) w') Q)
    (hend : ∀ (D : Nat → Bool) (a : Act) (w : World), a.defers = a0.defers → a.tmps.size = n → (∀ i, i < ops.size → D i = true) → (∀ t V, light t = some V → a.eval (.tmp t) = V) → (∀ t, (∀ (j : Nat) (o : Oper), ops[j]? = some o → o.dst ≠ some t) → a.eval (.tmp t) = a0.eval (.tmp t)) → St D (fun t => a.eval (.tmp t)) w → Q .normal a w) :
    (Code.region id ops true).wp P Q a0 w0 := by
  refine wp_region_any hm ?_
  refine wpAny_inv (fun listed a w => a.defers = a0.defers ∧ a.tmps.size = n ∧ listed.size = ops.size ∧ (∀ t V, light t = some V → (∀ (j : Nat) (o : Oper), ops[j]? = some o → o.dst = some t → listed.getD j false = true) → a.eval (.tmp t) = V) ∧
      (∀ t, (∀ (j : Nat) (o : Oper), ops[j]? = some o → o.dst ≠ some t) → a.eval (.tmp t) = a0.eval (.tmp t)) ∧ (∀ (j : Nat) (oj : Oper), ops[j]? = some oj → listed.getD j false = true → ∀ e ∈ oj.after, Region.binds .any e = true → listed.getD e.on false = true) ∧ St (fun j => listed.getD j false) (fun t => a.eval (.tmp t)) w)
    ?_ ?_ ops.size _ a0 _ (List.range ops.size) (by simp) (fun j hj _ => List.mem_range.2 hj) ⟨rfl, hn, by simp, fun t V hl ht => ?_, fun _ _ => rfl, fun j oj hj hd => ?_, ?_⟩
  · rintro listed a w ⟨h1, h2, hs, h3, h4, -, h5⟩ hr
    have hall := eachB_done hB hs hr
    exact hend _ a w h1 h2 (fun i hi => hall i hi) (fun t V hl => h3 t V hl fun j o hj _ => hall j (Array.getElem?_eq_some_iff.1 hj).1) h4 h5
  · rintro listed a w i ⟨h1, h2, hs, h3, h4, hcl, h5⟩ hi
    obtain ⟨hun, o, ho, hall⟩ := mem_ready.1 hi
    have hil := (Array.getElem?_eq_some_iff.1 ho).1
    have hun2 : listed.getD i false = false := by
      have : i < listed.size := by omega
      simpa [this] using hun
    have hself : (listed.setIfInBounds i true).getD i false = true := by
      have : i < listed.size := by omega
      simp [this]
    have hlooks : ∀ t ∈ o.looksAt ops, ∀ V, light t = some V → a.eval (.tmp t) = V := fun t ht V hl => h3 t V hl fun j oj hj hdj => eachB_looks hB ho ht hj hdj hall
    have hDD : ∀ j, (listed.setIfInBounds i true).getD j false = (if j = i then true else listed.getD j false) := by
      intro j
      by_cases hji : j = i
      · subst hji; rw [if_pos rfl, hself]
      · rw [if_neg hji, getD_set_ne false (fun e => hji e.symm)]
    have hother : ∀ (d : Tmp) (v : Value) (t : Tmp), t ≠ d → (a.put (some d) v).eval (.tmp t) = a.eval (.tmp t) := fun d v t htd => Act.eval_put fun d' e1 e2 => by cases e1; cases e2; exact htd rfl
    have hcl2 : ∀ (j : Nat) (oj : Oper), ops[j]? = some oj → (listed.setIfInBounds i true).getD j false = true → ∀ e ∈ oj.after, Region.binds .any e = true → (listed.setIfInBounds i true).getD e.on false = true := by
      intro j oj hj hd e he hb
      rw [hDD] at hd ⊢
      by_cases hei : e.on = i
      · rw [if_pos hei]
      · rw [if_neg hei]
        by_cases hji : j = i
        · subst hji; rw [ho] at hj; cases hj; exact hall e he hb
        · rw [if_neg hji] at hd; exact hcl j oj hj hd e he hb
    unfold wpOp
    by_cases hsp : i ∈ sp
    · obtain ⟨hw, hwp⟩ := hspecial i o ho hsp _ a w h1 h5 hall hun2 hcl hlooks
      simp only [ho, hw, if_true]
      refine .inl (Oper.wp_mono ?_ hwp)
      rintro a' w' ⟨v, rfl, hst⟩
      refine ⟨?_, ?_, by simpa using hs, ?_, ?_, hcl2, hsc _ _ _ _ _ (fun j _ => (hDD j).symm) (fun t _ => ?_) hst⟩
      · rw [← h1]; cases o.dst <;> rfl
      · rw [← h2]; cases o.dst <;> simp [Act.put]
      · intro t V hl ht
        have hd : o.dst ≠ some t := fun hd => by rw [hspd i o ho hsp t hd] at hl; cases hl
        have e : (a.put o.dst v).eval (.tmp t) = a.eval (.tmp t) := Act.eval_put fun d hd' e => hd (by cases e; exact hd')
        rw [e]
        refine h3 t V hl fun j oj hj hdj => ?_
        have := ht j oj hj hdj
        rw [hDD j] at this
        by_cases hji : j = i
        · subst hji; rw [ho] at hj; cases hj; exact absurd hdj hd
        · rwa [if_neg hji] at this
      · intro t ht
        have hd := ht i o ho
        have e : (a.put o.dst v).eval (.tmp t) = a.eval (.tmp t) := Act.eval_put fun d hd' e => hd (by cases e; exact hd')
        rw [e]
        exact h4 t ht
      · by_cases hd : o.dst = some t
        · have hlt := (eachB_dst hB ho hd).1
          rw [if_pos hd, hd, eval_put_self (show t < a.tmps.size by rw [h2]; exact hlt)]
        · rw [if_neg hd]
          exact (Act.eval_put fun d hd' e => hd (by cases e; exact hd')).symm
    · obtain ⟨d, V, hd, hlV, hop⟩ := hlight i o ho hsp
      obtain ⟨hw, hwp⟩ := hop _ a w h5 hall hun2 hcl hlooks
      simp only [ho, hw, if_true]
      refine .inl (Oper.wp_mono ?_ hwp)
      rintro a' w' ⟨rfl, rfl⟩
      have hlt := (eachB_dst hB ho hd).1
      rw [hd]
      refine ⟨by rw [← h1]; rfl, by rw [← h2]; simp [Act.put], by simpa using hs, ?_, ?_, hcl2, hsc _ _ _ _ _ (fun j hj => ?_) (fun t ht => ?_) h5⟩
      · intro t V' hl ht
        by_cases htd : t = d
        · subst htd
          rw [eval_put_self (show t < a.tmps.size by rw [h2]; exact hlt)]
          rw [hlV] at hl
          cases hl
          rfl
        · rw [hother d V t htd]
          refine h3 t V' hl fun j oj hj hdj => ?_
          have := ht j oj hj hdj
          rw [hDD j] at this
          by_cases hji : j = i
          · subst hji; rw [ho] at hj; cases hj; rw [hd] at hdj; cases hdj; exact absurd rfl htd
          · rwa [if_neg hji] at this
      · intro t ht
        have htd : t ≠ d := fun e => ht i o ho (by rw [hd, e])
        rw [hother d V t htd]
        exact h4 t ht
      · rw [hDD j, if_neg (fun (e : j = i) => hsp (by rw [← e]; exact hj))]
      · have htd : t ≠ d := fun e => by rw [e, hlV] at ht; cases ht
        exact (hother d V t htd).symm
  · refine h00 t V hl fun j o hj hd => ?_
    have := ht j o hj hd
    have hjl := (Array.getElem?_eq_some_iff.1 hj).1
    simp [hjl] at this
  · have hjl := (Array.getElem?_eq_some_iff.1 hj).1
    simp [hjl] at hd
  · refine hsc _ _ _ _ _ (fun j _ => ?_) (fun _ _ => rfl) h0
    by_cases hj : j < ops.size
    · simp [hj]
    · simp [Array.getD_eq_getD_getElem?, hj]
end
section
open Go.RowKit
set_option maxHeartbeats 2000000
theorem opwp_add1I {o : Oper} {a : Act} {w : World} {K : Act → World → Prop} {Q : Exit → Act → World → Prop} {x : Tmp} {m : Int} (hop : o.op = .binOp .add 3 (.tmp x) (.const (.int .i64 1)) 3) (hx : a.eval (.tmp x) = .int .i64 m) (h0 : -9223372036854775808 ≤ m) (h1 : m < 9223372036854775807) (hK : K (a.put o.dst (.int .i64 (m + 1))) w) : o.wp Tryz.prog a w K Q := by
  have q : IntKind.i64.wrap (m + 1) = m + 1 := IntWalk.i64_in _ (by omega)
  refine opwp_val (w' := w) (.int .i64 (m + 1)) ?_ hK
  have e : a.eval (.const (.int .i64 1)) = .int .i64 1 := rfl
  simp only [execOp, hop, hx, e]
  go_simp
theorem opwp_lenN {o : Oper} {a : Act} {w : World} {K : Act → World → Prop} {Q : Exit → Act → World → Prop} {x : Tmp} {A : Option Addr} {n c : Nat} (hop : o.op = .call { callee := .builtin .len, args := #[.tmp x], argTypes := #[25] }) (hx : a.eval (.tmp x) = .slice A n c) (hK : K (a.put o.dst (.int .i64 n)) w) : o.wp Tryz.prog a w K Q := by
  refine opwp_val (w' := w) (.int .i64 n) ?_ hK
  simp only [execOp, hop, resolve, invoke, builtin, hx, List.map_toArray, List.map_cons, List.map_nil]
  go_simp
theorem opwp_iaN {o : Oper} {a : Act} {w : World} {K : Act → World → Prop} {Q : Exit → Act → World → Prop} {x y : Tmp} {g off n c k : Nat} (hop : o.op = .indexAddr 25 (.tmp x) (.tmp y)) (hx : a.eval (.tmp x) = .slice (some ⟨g, off, none⟩) n c) (hy : a.eval (.tmp y) = .int .i64 (k : Nat)) (hk : k < n) (hK : K (a.put o.dst (.pointer (some ⟨g, off + k * 6, none⟩))) w) : o.wp Tryz.prog a w K Q := by
  refine opwp_val (w' := w) (.pointer (some ⟨g, off + k * 6, none⟩)) ?_ hK
  have h1 : (k : Int) < (n : Int) := by omega
  simp only [execOp, hop, hx, hy]
  go_simp
theorem opwp_bsZ {o : Oper} {a : Act} {w : World} {K : Act → World → Prop} {Q : Exit → Act → World → Prop} (hop : o.op = .buildSlice 25 1 #[(0, .const (.agg #[.int .i64 0, .int .i64 0, .int .u64 0, .string ⟨#[]⟩, .slice none 0 0, .slice none 0 0]))])
    (hK : K (a.put o.dst (.slice (some ⟨w.heap.size, 0, none⟩) 1 1)) (w.alloc (.cells #[.int .i64 0, .int .i64 0, .int .u64 0, .string ⟨#[]⟩, .slice none 0 0, .slice none 0 0] 27))) : o.wp Tryz.prog a w K Q := by
  refine opwp_val (w' := w.alloc (.cells #[.int .i64 0, .int .i64 0, .int .u64 0, .string ⟨#[]⟩, .slice none 0 0, .slice none 0 0] 27)) (.slice (some ⟨w.heap.size, 0, none⟩) 1 1) ?_ hK
  have e : a.eval (.const (.agg #[.int .i64 0, .int .i64 0, .int .u64 0, .string ⟨#[]⟩, .slice none 0 0, .slice none 0 0])) = .agg #[.int .i64 0, .int .i64 0, .int .u64 0, .string ⟨#[]⟩, .slice none 0 0, .slice none 0 0] := rfl
  simp only [execOp, hop, List.map_toArray, List.map_cons, List.map_nil, e]
  go_simp
theorem opwp_bsN1 {o : Oper} {a : Act} {w : World} {K : Act → World → Prop} {Q : Exit → Act → World → Prop} {x : Tmp} {nx0 nx1 nx2 : Int} {sx : ByteArray} {Ax : Option Addr} {mx cx : Nat} {Bx : Option Addr} {kx dx : Nat} (hop : o.op = .buildSlice 25 1 #[(0, .tmp x)]) (hx : a.eval (.tmp x) = .agg #[.int .i64 nx0, .int .i64 nx1, .int .u64 nx2, .string sx, .slice Ax mx cx, .slice Bx kx dx])
    (hK : K (a.put o.dst (.slice (some ⟨w.heap.size, 0, none⟩) 1 1)) (w.alloc (.cells #[.int .i64 nx0, .int .i64 nx1, .int .u64 nx2, .string sx, .slice Ax mx cx, .slice Bx kx dx] 27))) : o.wp Tryz.prog a w K Q := by
  refine opwp_val (w' := w.alloc (.cells #[.int .i64 nx0, .int .i64 nx1, .int .u64 nx2, .string sx, .slice Ax mx cx, .slice Bx kx dx] 27)) (.slice (some ⟨w.heap.size, 0, none⟩) 1 1) ?_ hK
  simp only [execOp, hop, List.map_toArray, List.map_cons, List.map_nil, hx]
  go_simp
theorem opwp_bsT1 {o : Oper} {a : Act} {w : World} {K : Act → World → Prop} {Q : Exit → Act → World → Prop} {x : Tmp} {sx : ByteArray} (hop : o.op = .buildSlice 24 1 #[(0, .tmp x)]) (hx : a.eval (.tmp x) = .string sx)
    (hK : K (a.put o.dst (.slice (some ⟨w.heap.size, 0, none⟩) 1 1)) (w.alloc (.cells #[.string sx] 9))) : o.wp Tryz.prog a w K Q := by
  refine opwp_val (w' := w.alloc (.cells #[.string sx] 9)) (.slice (some ⟨w.heap.size, 0, none⟩) 1 1) ?_ hK
  simp only [execOp, hop, List.map_toArray, List.map_cons, List.map_nil, hx]
  go_simp
theorem opwp_stL {o : Oper} {a : Act} {w : World} {K : Act → World → Prop} {Q : Exit → Act → World → Prop} {x y : Tmp} {p : Addr} {u : Value} {A : Option Addr} {n c : Nat} (hop : o.op = .store 25 (.tmp x) (.tmp y)) (hd : o.dst = none) (hx : a.eval (.tmp x) = .pointer (some p)) (hy : a.eval (.tmp y) = .slice A n c)
    (h : w.cell? p = some u) (hf : w.frozen? p = false) (hK : K a (w.setCell p (.slice A n c))) : o.wp Tryz.prog a w K Q := by
  have e : (execOp a.eval o).run Tryz.prog w = .ok .skip (w.setCell p (.slice A n c)) := by
    simp only [execOp, hop, hx, hy]
    go_simp
  unfold Oper.wp
  rw [e, Oper.upon_skip, hd]
  exact hK
theorem opwp_stT {o : Oper} {a : Act} {w : World} {K : Act → World → Prop} {Q : Exit → Act → World → Prop} {x y : Tmp} {p : Addr} {u : Value} {A : Option Addr} {n c : Nat} (hop : o.op = .store 24 (.tmp x) (.tmp y)) (hd : o.dst = none) (hx : a.eval (.tmp x) = .pointer (some p)) (hy : a.eval (.tmp y) = .slice A n c)
    (h : w.cell? p = some u) (hf : w.frozen? p = false) (hK : K a (w.setCell p (.slice A n c))) : o.wp Tryz.prog a w K Q := by
  have e : (execOp a.eval o).run Tryz.prog w = .ok .skip (w.setCell p (.slice A n c)) := by
    simp only [execOp, hop, hx, hy]
    go_simp
  unfold Oper.wp
  rw [e, Oper.upon_skip, hd]
  exact hK
theorem opwp_stE {o : Oper} {a : Act} {w : World} {K : Act → World → Prop} {Q : Exit → Act → World → Prop} {x y : Tmp} {g f : Nat} {u0 u1 u2 u3 u4 u5 : Value} {nx0 nx1 nx2 : Int} {sx : ByteArray} {Ax : Option Addr} {mx cx : Nat} {Bx : Option Addr} {kx dx : Nat} (hop : o.op = .store 27 (.tmp x) (.tmp y)) (hd : o.dst = none)
    (hx : a.eval (.tmp x) = .pointer (some ⟨g, f, none⟩)) (hy : a.eval (.tmp y) = .agg #[.int .i64 nx0, .int .i64 nx1, .int .u64 nx2, .string sx, .slice Ax mx cx, .slice Bx kx dx])
    (h0 : w.cell? ⟨g, f, none⟩ = some u0) (h1 : w.cell? ⟨g, f + 1, none⟩ = some u1) (h2 : w.cell? ⟨g, f + 2, none⟩ = some u2) (h3 : w.cell? ⟨g, f + 3, none⟩ = some u3) (h4 : w.cell? ⟨g, f + 4, none⟩ = some u4) (h5 : w.cell? ⟨g, f + 5, none⟩ = some u5)
    (hf : ∀ i, w.frozen? ⟨g, i, none⟩ = false) (hK : K a ((((((w.setCell ⟨g, f, none⟩ (.int .i64 nx0)).setCell ⟨g, f + 1, none⟩ (.int .i64 nx1)).setCell ⟨g, f + 2, none⟩ (.int .u64 nx2)).setCell ⟨g, f + 3, none⟩ (.string sx)).setCell ⟨g, f + 4, none⟩ (.slice Ax mx cx)).setCell ⟨g, f + 5, none⟩ (.slice Bx kx dx))) : o.wp Tryz.prog a w K Q := by
  have f0 := hf f
  have f1 := hf (f + 1)
  have f2 := hf (f + 2)
  have f3 := hf (f + 3)
  have f4 := hf (f + 4)
  have f5 := hf (f + 5)
  have e : (execOp a.eval o).run Tryz.prog w = .ok .skip ((((((w.setCell ⟨g, f, none⟩ (.int .i64 nx0)).setCell ⟨g, f + 1, none⟩ (.int .i64 nx1)).setCell ⟨g, f + 2, none⟩ (.int .u64 nx2)).setCell ⟨g, f + 3, none⟩ (.string sx)).setCell ⟨g, f + 4, none⟩ (.slice Ax mx cx)).setCell ⟨g, f + 5, none⟩ (.slice Bx kx dx)) := by
    clear hf hK
    simp only [execOp, hop, hx, hy]
    go_simp
  unfold Oper.wp
  rw [e, Oper.upon_skip, hd]
  exact hK
theorem opwp_app {o : Oper} {a : Act} {w : World} {K : Act → World → Prop} {Q : Exit → Act → World → Prop} {x y : Tmp} (t : TypeId) (hop : o.op = .call { callee := .builtin .append, args := #[.tmp x, .tmp y], argTypes := #[t, t] })
    (e : TypeId) (i : TypeInfo) (z : Value) (size bytes : Nat) (ht : Tryz.prog.underlying t = some (.slice e)) (hi : Tryz.prog.info? e = some i) (hz : i.zero = some z)
    (hsize : i.size = size) (hby : i.bytes = bytes) (hzs : z.cells.size = size) (hsz : 0 < size)
    (v : Value) (n : Nat) (xs : List Value) (hs : a.eval (.tmp x) = v) (hown : w.ownsRow 0 e size v n xs)
    (ad : Addr) (m c : Nat) (news : List Value) (hx : a.eval (.tmp y) = .slice (some ad) m c) (hl : news.length = m * size) (hnews : ∀ j u, news[j]? = some u → w.cell? (ad.add j) = some u) (h1 : ∀ u ∈ news, u.oneCell' = true)
    (h63 : n + m ≤ maxLen) (hbytes : (n + m) * bytes ≤ 140737488355328)
    (hK : ∀ v' w', w'.ownsRow 0 e size v' (n + m) (xs ++ news) → w.grownBy w' v.ownBlock → (v'.ownBlock = v.ownBlock ∨ v'.ownBlock = some w.heap.size) → K (a.put o.dst v') w') : o.wp Tryz.prog a w K Q := by
  obtain ⟨v', w', hrun, h2, h3, h4⟩ := run_append_where (P := Tryz.prog) w t o.type e i z size bytes ht hi hz hsize hby hzs hsz v n xs hown ad m c news hl hnews h1 h63 hbytes
  unfold Oper.wp
  simp [execOp, hop, resolve, invoke, builtin, hs, hx, hrun, Result.andThen]
  exact hK v' w' h2 h3 h4
theorem opwp_eqI {o : Oper} {a : Act} {w : World} {K : Act → World → Prop} {Q : Exit → Act → World → Prop} {x : Tmp} {m n : Int} (hop : o.op = .binOp .eql 3 (.tmp x) (.const (.int .i64 n)) 3) (hx : a.eval (.tmp x) = .int .i64 m) (hK : K (a.put o.dst (.bool (m == n))) w) : o.wp Tryz.prog a w K Q := by
  refine opwp_val (w' := w) (.bool (m == n)) ?_ hK
  have e : a.eval (.const (.int .i64 n)) = .int .i64 n := rfl
  simp only [execOp, hop, hx, e]
  go_simp
theorem opwp_eqE {o : Oper} {a : Act} {w : World} {K : Act → World → Prop} {Q : Exit → Act → World → Prop} {x : Tmp} {m n : Int} (hop : o.op = .binOp .eql 28 (.tmp x) (.const (.int .i64 n)) 28) (hx : a.eval (.tmp x) = .int .i64 m) (hK : K (a.put o.dst (.bool (m == n))) w) : o.wp Tryz.prog a w K Q := by
  refine opwp_val (w' := w) (.bool (m == n)) ?_ hK
  have e : a.eval (.const (.int .i64 n)) = .int .i64 n := rfl
  simp only [execOp, hop, hx, e]
  go_simp
theorem opwp_ltI {o : Oper} {a : Act} {w : World} {K : Act → World → Prop} {Q : Exit → Act → World → Prop} {x : Tmp} {m n : Int} (hop : o.op = .binOp .lss 3 (.tmp x) (.const (.int .i64 n)) 3) (hx : a.eval (.tmp x) = .int .i64 m) (hK : K (a.put o.dst (.bool (decide (m < n)))) w) : o.wp Tryz.prog a w K Q := by
  refine opwp_val (w' := w) (.bool (decide (m < n))) ?_ hK
  have e : a.eval (.const (.int .i64 n)) = .int .i64 n := rfl
  simp only [execOp, hop, hx, e]
  go_simp
end
end Go.Proofs.YtccmhhmdenfecaaGreatDoor
