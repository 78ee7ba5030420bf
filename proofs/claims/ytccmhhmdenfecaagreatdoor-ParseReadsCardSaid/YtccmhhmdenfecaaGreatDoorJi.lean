/- The walk of parse.reader's value. -/
import Derived.Test.YtccmhhmdenfecaaGreatDoorJh
namespace Go.Proofs.YtccmhhmdenfecaaGreatDoor
set_option linter.unusedVariables false
set_option linter.unusedSimpArgs false
set_option linter.unusedSectionVars false
open Go.RowKit Go.Shelf Go.Maps
open Go.ChangeMaps (setBlock)
/-- The node of a token, by kind: kind, signed, unsigned, text. -/
def begN (tk : Tok) (n : Int) : Int × Int × Int × List UInt8 := if n = 7 then (1, 0, 0, []) else if n = 8 then (2, 0, 0, []) else if n = 9 then (2, 1, 0, []) else if n = 10 then (3, tk.n, 0, []) else if n = 11 then (4, 0, tk.u, []) else (6, 0, 0, tk.text)
def rowN (p : Int × Int × Int × List UInt8) : Array Value := #[.int .i64 p.1, .int .i64 p.2.1, .int .u64 p.2.2.1, .string ⟨p.2.2.2.toArray⟩, .slice none 0 0, .slice none 0 0]
/-- What stands for a kind in the map of beginnings. -/
def BegV (A A1 : Nat) (tk : Tok) (b : Nat) (w : World) (n : Int) (v : Value) : Prop :=
  (n = 3 ∧ v = .func (.func 53) #[] #[.pointer (some ⟨A, 0, none⟩), .pointer (some ⟨A1, 0, none⟩)]) ∨
  (n = 1 ∧ v = .func (.func 55) #[] #[.pointer (some ⟨A, 0, none⟩), .pointer (some ⟨A1, 0, none⟩)]) ∨
  (7 ≤ n ∧ n ≤ 12 ∧ ∃ g, v = .func (.func 52) #[] #[.pointer (some ⟨A, 0, none⟩), .pointer (some ⟨g, 0, none⟩)] ∧ g ≠ b ∧ w.heap[g]? = some (.cells (rowN (begN tk n)) 27 (0, 0)))
def keyI (i : Nat) : Int := if i = 4 then 7 else if i = 8 then 8 else if i = 12 then 9 else if i = 18 then 10 else if i = 24 then 11 else if i = 30 then 12 else if i = 32 then 3 else 1
def blkM (A A1 : Nat) (tk : Tok) (b : Nat) (S : Nat → Bool) (w : World) : Prop :=
  ∃ F, MapIs Tryz.prog 3 w b F ∧ (∀ n v, F (.int .i64 n) = some v → BegV A A1 tk b w n v) ∧ ∀ i ∈ [4, 8, 12, 18, 24, 30, 32, 34], S i = true → ∃ v, F (.int .i64 (keyI i)) = some v
theorem BegV.mono {A A1 : Nat} {tk : Tok} {b : Nat} {w w' : World} {n : Int} {v : Value} (h : BegV A A1 tk b w n v) (hw : ∀ k, k ≠ b → k < w.heap.size → w'.heap[k]? = w.heap[k]?) : BegV A A1 tk b w' n v := by
  rcases h with h | h | ⟨h1, h2, g, h3, h4, h5⟩
  · exact .inl h
  · exact .inr (.inl h)
  · exact .inr (.inr ⟨h1, h2, g, h3, h4, (hw g h4 (Array.getElem?_eq_some_iff.1 h5).1).trans h5⟩)
theorem blkM_st (A A1 : Nat) (tk : Tok) : ∀ (b : Nat) (S : Nat → Bool) (w w' : World), b < w.heap.size → Below w.heap.size w w' → blkM A A1 tk b S w → blkM A A1 tk b S w' := by
  rintro b S w w' hb h ⟨F, h1, h2, h3⟩
  exact ⟨F, h1.same (h.block b hb), fun n v e => (h2 n v e).mono fun k _ hk => h.block k hk, h3⟩
theorem blkM_sc (A A1 : Nat) (tk : Tok) : ∀ (b : Nat) (S S' : Nat → Bool) (w : World), (∀ i ∈ [4, 8, 12, 18, 24, 30, 32, 34], S i = S' i) → blkM A A1 tk b S w → blkM A A1 tk b S' w := by
  rintro b S S' w h ⟨F, h1, h2, h3⟩
  exact ⟨F, h1, h2, fun i hi hs => h3 i hi (by rw [h i hi]; exact hs)⟩
theorem intKeyP : Keyed Tryz.prog 3 := int_keyed Tryz.underlying3
theorem intKeyL (n : Int) (h0 : -9223372036854775808 ≤ n) (h1 : n ≤ 9223372036854775807) : ∃ l, keyOf Tryz.prog 3 (.int .i64 n) = some l :=
  ⟨_, keyOf_int_mk Tryz.underlying3 (by simp [Lit.wf, IntKind.min, IntKind.max, IntKind.signed, IntKind.bits]; omega)⟩
/-- One entry more. -/
theorem blkM_put {A A1 : Nat} {tk : Tok} {b i : Nat} {S : Nat → Bool} {w : World} {v : Value} (h : blkM A A1 tk b S w) (hi : i ∈ [4, 8, 12, 18, 24, 30, 32, 34]) (hv : BegV A A1 tk b w (keyI i) v) :
    ∃ o, (Instr.mapUpdate 102 (.map (some b)) (.int .i64 (keyI i)) v).run Tryz.prog w = .ok () (setBlock w b o) ∧ blkM A A1 tk b (fun j => if j = i then true else S j) (setBlock w b o) := by
  obtain ⟨F, h1, h2, h3⟩ := h
  have hk : 1 ≤ keyI i ∧ keyI i ≤ 12 := by
    simp only [List.mem_cons, List.not_mem_nil, or_false] at hi
    rcases hi with rfl | rfl | rfl | rfl | rfl | rfl | rfl | rfl <;> exact ⟨by decide, by decide⟩
  obtain ⟨l, hl⟩ := intKeyL (keyI i) (by omega) (by omega)
  obtain ⟨o, q1, q2⟩ := h1.update intKeyP (t := 102) (el := 100) Tryz.underlying102 (val := v) hl
  refine ⟨o, q1, _, q2, fun n u e => ?_, fun j hj hs => ?_⟩
  · split at e
    · rename_i hn
      cases e
      injection hn with _ hn
      subst hn
      exact hv.mono fun k hk _ => heap_setBlock_other w b k o hk
    · exact (h2 n u e).mono fun k hk _ => heap_setBlock_other w b k o hk
  · split
    · exact ⟨_, rfl⟩
    · rename_i hn
      by_cases hji : j = i
      · subst hji; exact absurd rfl hn
      · exact h3 j hj (by simpa [hji] using hs)
theorem opwp_ins {o : Oper} {a : Act} {w : World} {K : Act → World → Prop} {Q : Exit → Act → World → Prop} {x y : Tmp} {b : Nat} {n : Int} {v : Value} {ob : Obj} (hop : o.op = .insert 102 (.tmp x) (.const (.int .i64 n)) (.tmp y)) (hd : o.dst = none) (hx : a.eval (.tmp x) = .map (some b)) (hy : a.eval (.tmp y) = v)
    (hr : (Instr.mapUpdate 102 (.map (some b)) (.int .i64 n) v).run Tryz.prog w = .ok () (setBlock w b ob)) (hK : K a (setBlock w b ob)) : o.wp Tryz.prog a w K Q := by
  have e : (execOp a.eval o).run Tryz.prog w = .ok .skip (setBlock w b ob) := by
    have ec : a.eval (.const (.int .i64 n)) = .int .i64 n := rfl
    simp only [execOp, hop, hx, hy, ec]
    simp [Sem.run_bind, hr, Result.andThen_ok, Sem.run_pure]
  unfold Oper.wp
  rw [e, Oper.upon_skip, hd]
  exact hK
/-- plain: the closure of a node. -/
theorem plain_any2 (A : Nat) (kd nn u : Int) (s : ByteArray) (B1 : Option Addr) (m1 d1 : Nat) (B2 : Option Addr) (m2 d2 : Nat) (w : World) :
    Calls Tryz.prog 51 #[.agg #[.int .i64 kd, .int .i64 nn, .int .u64 u, .string s, .slice B1 m1 d1, .slice B2 m2 d2], .pointer (some ⟨A, 0, none⟩)] w fun o w' => o = .returned (.func (.func 52) #[] #[.pointer (some ⟨A, 0, none⟩), .pointer (some ⟨w.heap.size, 0, none⟩)]) ∧
      w' = w.alloc (.cells #[.int .i64 kd, .int .i64 nn, .int .u64 u, .string s, .slice B1 m1 d1, .slice B2 m2 d2] 27) := by
  have hmf : ∀ (fn : Fn) (first cap : Array Value) (w : World), (Instr.makeFunc fn first cap).run Tryz.prog w = .ok (.func fn first cap) w := fun _ _ _ _ => rfl
  go_enter Tryz.func51, Tryz.ntmps51
  go_wp2
  go_ret
  exact ⟨rfl, rfl⟩
section
variable {o : Oper} {a : Act} {w : World} {K : Act → World → Prop} {Q : Exit → Act → World → Prop}
theorem exec_callV {P : Program} {o : Oper} {a : Act} {w : World} {f : FuncId} {fn : Func} {x : Tmp} {xs : List Operand} {ts : Array TypeId} (cap : Array Value) (vs : List Value) (hf : P.funcs[f]? = some fn) (hn : (fn.name == "runtime.NumGoroutine") = false) (hb : fn.body.isNone = false)
    (hop : o.op = .call { callee := .value (.tmp x), args := xs.toArray, argTypes := ts }) (hx : a.eval (.tmp x) = .func (.func f) #[] cap) (hv : xs.map a.eval = vs) :
    (execOp a.eval o).run P w = .ok (.enter f (vs.toArray ++ cap)) w := by
  subst hv
  have hn2 : ¬ fn.name = "runtime.NumGoroutine" := by simpa using hn
  have hb2 : ¬ fn.body = none := by intro e; rw [e] at hb; cases hb
  simp [execOp, hop, resolve, invoke, hx, Sem.run_bind, Sem.run_pure, Result.andThen_ok, Deferred.ofValue, callFunc, hf, hn2, hb2]
set_option maxHeartbeats 2000000
theorem opwp_bu1 {k : Int} (hop : o.op = .build 27 #[(0, .const (.int .i64 k))]) (hK : K (a.put o.dst (.agg #[.int .i64 k, .int .i64 0, .int .u64 0, .string ⟨#[]⟩, .slice none 0 0, .slice none 0 0])) w) : o.wp Tryz.prog a w K Q := by
  refine opwp_val (w' := w) (.agg #[.int .i64 k, .int .i64 0, .int .u64 0, .string ⟨#[]⟩, .slice none 0 0, .slice none 0 0]) ?_ hK
  have e : a.eval (.const (.int .i64 k)) = .int .i64 k := rfl
  simp only [execOp, hop]
  go_simp
theorem opwp_bu2 {k n : Int} (hop : o.op = .build 27 #[(0, .const (.int .i64 k)), (1, .const (.int .i64 n))]) (hK : K (a.put o.dst (.agg #[.int .i64 k, .int .i64 n, .int .u64 0, .string ⟨#[]⟩, .slice none 0 0, .slice none 0 0])) w) : o.wp Tryz.prog a w K Q := by
  refine opwp_val (w' := w) (.agg #[.int .i64 k, .int .i64 n, .int .u64 0, .string ⟨#[]⟩, .slice none 0 0, .slice none 0 0]) ?_ hK
  have e : a.eval (.const (.int .i64 k)) = .int .i64 k := rfl
  have e2 : a.eval (.const (.int .i64 n)) = .int .i64 n := rfl
  simp only [execOp, hop]
  go_simp
theorem opwp_buN {k n : Int} {x : Tmp} (hop : o.op = .build 27 #[(0, .const (.int .i64 k)), (1, .tmp x)]) (hx : a.eval (.tmp x) = .int .i64 n) (hK : K (a.put o.dst (.agg #[.int .i64 k, .int .i64 n, .int .u64 0, .string ⟨#[]⟩, .slice none 0 0, .slice none 0 0])) w) : o.wp Tryz.prog a w K Q := by
  refine opwp_val (w' := w) (.agg #[.int .i64 k, .int .i64 n, .int .u64 0, .string ⟨#[]⟩, .slice none 0 0, .slice none 0 0]) ?_ hK
  have e : a.eval (.const (.int .i64 k)) = .int .i64 k := rfl
  simp only [execOp, hop, List.map_toArray, List.map_cons, List.map_nil, hx]
  go_simp
theorem opwp_buU {k n : Int} {x : Tmp} (hop : o.op = .build 27 #[(0, .const (.int .i64 k)), (2, .tmp x)]) (hx : a.eval (.tmp x) = .int .u64 n) (hK : K (a.put o.dst (.agg #[.int .i64 k, .int .i64 0, .int .u64 n, .string ⟨#[]⟩, .slice none 0 0, .slice none 0 0])) w) : o.wp Tryz.prog a w K Q := by
  refine opwp_val (w' := w) (.agg #[.int .i64 k, .int .i64 0, .int .u64 n, .string ⟨#[]⟩, .slice none 0 0, .slice none 0 0]) ?_ hK
  have e : a.eval (.const (.int .i64 k)) = .int .i64 k := rfl
  simp only [execOp, hop, List.map_toArray, List.map_cons, List.map_nil, hx]
  go_simp
theorem opwp_buS {k : Int} {s : ByteArray} {x : Tmp} (hop : o.op = .build 27 #[(0, .const (.int .i64 k)), (3, .tmp x)]) (hx : a.eval (.tmp x) = .string s) (hK : K (a.put o.dst (.agg #[.int .i64 k, .int .i64 0, .int .u64 0, .string s, .slice none 0 0, .slice none 0 0])) w) : o.wp Tryz.prog a w K Q := by
  refine opwp_val (w' := w) (.agg #[.int .i64 k, .int .i64 0, .int .u64 0, .string s, .slice none 0 0, .slice none 0 0]) ?_ hK
  have e : a.eval (.const (.int .i64 k)) = .int .i64 k := rfl
  simp only [execOp, hop, List.map_toArray, List.map_cons, List.map_nil, hx]
  go_simp
theorem opwp_mf2 {f : Fn} {x y : Tmp} {u v : Value} (hop : o.op = .makeFunc f #[] #[.tmp x, .tmp y]) (hx : a.eval (.tmp x) = u) (hy : a.eval (.tmp y) = v) (hK : K (a.put o.dst (.func f #[] #[u, v])) w) : o.wp Tryz.prog a w K Q := by
  refine opwp_val (w' := w) (.func f #[] #[u, v]) ?_ hK
  simp only [execOp, hop, List.map_toArray, List.map_cons, List.map_nil, hx, hy]
  rfl
theorem opwp_mm (hop : o.op = .makeMap 102 none) (hK : K (a.put o.dst (.map (some w.heap.size))) (w.alloc (.map #[] 0))) : o.wp Tryz.prog a w K Q := by
  have hmm := @run_makeMap Tryz.prog
  refine opwp_val (w' := w.alloc (.map #[] 0)) (.map (some w.heap.size)) ?_ hK
  simp only [execOp, hop]
  go_simp
end
theorem leaf_beg (tk : Tok) (h : 7 ≤ tk.kind ∧ tk.kind ≤ 12) : leafP tk = .mk (begN tk tk.kind).1 (begN tk tk.kind).2.1 (begN tk tk.kind).2.2.1 (begN tk tk.kind).2.2.2 [] [] := by
  unfold leafP begN
  (repeat' split) <;> rfl
def leafR (s : List UInt8) (tk : Tok) (m : Int) (T : DT) : VR := match nextP s tk with
  | .error x => .error x
  | .ok t1 => .ok (T, t1, m)
def nodeR (kd : Int) (r : ER) : VR := match r with
  | .error x => .error x
  | .ok (ks, l, t1, m) => .ok (.mk kd 0 0 [] ks l, t1, m)
theorem leaf_fresh {B : Nat} {w : World} (p : Int × Int × Int × List UInt8) : Fresh B w (.mk p.1 p.2.1 p.2.2.1 p.2.2.2 [] []) (.agg (rowN p)) := by
  refine ⟨_, _, _, _, _, _, [], rfl, ?_, List.nodup_nil, fun i hi => by cases hi⟩
  rw [NRep]
  exact ⟨.slice none 0 0, .slice none 0 0, [], [], rfl, World.ownsRow_nil _ _ _ _, World.ownsRow_nil _ _ _ _, by rw [NReps]; exact ⟨rfl, rfl⟩, rfl⟩
set_option maxHeartbeats 8000000 in
set_option maxRecDepth 100000 in
/-- The closure of a leaf. -/
theorem beg1_any (s : List UInt8) (hl : s.length ≤ 1073741824) (R A g : Nat) (hGR : Gb R) (p : Int × Int × Int × List UInt8) (w : World) (tk : Tok) (m : Int) (hP : PRow w R s tk m) (hGl : Glb w) (hA : w.heap[A]? = some (.cells #[.pointer (some ⟨R, 0, none⟩)] 58 (0, 0)))
    (hg : w.heap[g]? = some (.cells (rowN p) 27 (0, 0))) (hRg : R ≠ g) :
    Calls Tryz.prog 52 #[.pointer (some ⟨A, 0, none⟩), .pointer (some ⟨g, 0, none⟩)] w (ValPost w R s (leafR s tk m (.mk p.1 p.2.1 p.2.2.1 p.2.2.2 [] []))) := by
  have hb0 : Below w.heap.size w (w.alloc (.cells zC.toArray 27)) := (Below.refl _ w).alloc (Nat.le_refl _) _
  have HN := Lib.hid (nextr_any s tk m R (w.alloc (.cells zC.toArray 27)) (hP.below hb0) hl (hGl.below hb0 (hGR.mono (Nat.le_of_lt hP.lt))) hGR)
  have hRs := hP.lt
  have c0 : w.cell? ⟨A, 0, none⟩ = some (.pointer (some ⟨R, 0, none⟩)) := cell_of_row _ _ _ _ _ _ hA
  have hAs := (Array.getElem?_eq_some_iff.1 hA).1
  have hgs := (Array.getElem?_eq_some_iff.1 hg).1
  have HG := Lib.hid hg
  unfold leafR
  generalize nextP s tk = r at *
  clear hP hGl hA hg
  go_enter Tryz.func52, Tryz.ntmps52
  go_wp2_with fail
  refine HN.out.mono ?_
  rintro o w1 ⟨ht, hn⟩
  cases r with
  | error x =>
    obtain rfl := hn
    exact ⟨rfl, (Touch.quiet hb0).trans ht, rfl⟩
  | ok t1 =>
    obtain ⟨rfl, hp1⟩ := hn
    have hz1 : w.heap.size + 1 ≤ w1.heap.size := by have := ht.size; rwa [World.size_alloc] at this
    have hx : w1.heap[w.heap.size]? = some (.cells zC.toArray 27 (0, 0)) := (ht.block _ (by simp) (by simp; omega)).trans (heap_alloc_new w _)
    have hg1 : w1.heap[g]? = some (.cells (rowN p) 27 (0, 0)) := (ht.block g (by rw [World.size_alloc]; omega) (by simp; omega)).trans ((Below.heap_alloc w _ g hgs).trans HG.out)
    obtain ⟨n0, n1, n2, n3, n4, n5⟩ := cells6 hg1
    obtain ⟨y0, y1, y2, y3, y4, y5⟩ := cells6 hx
    have f0 : w1.frozen? ⟨w.heap.size, 0, none⟩ = false := frozen_of_row _ _ _ _ _ hx
    have f1 : w1.frozen? ⟨w.heap.size, 1, none⟩ = false := frozen_of_row _ _ _ _ _ hx
    have f2 : w1.frozen? ⟨w.heap.size, 2, none⟩ = false := frozen_of_row _ _ _ _ _ hx
    have f3 : w1.frozen? ⟨w.heap.size, 3, none⟩ = false := frozen_of_row _ _ _ _ _ hx
    have f4 : w1.frozen? ⟨w.heap.size, 4, none⟩ = false := frozen_of_row _ _ _ _ _ hx
    have f5 : w1.frozen? ⟨w.heap.size, 5, none⟩ = false := frozen_of_row _ _ _ _ _ hx
    have HT := Lib.hid ((Touch.quiet hb0).trans ht)
    have HP1 := Lib.hid hp1
    clear ht hp1 hx hg1 HN HG hb0 c0
    go_wp2_with fail
    (refine bodyPost_ret (v := .agg #[.int .i64 p.1, .int .i64 p.2.1, .int .u64 p.2.2.1, .string ⟨p.2.2.2.toArray⟩, .slice none 0 0, .slice none 0 0]) (by simp [results, Tryz.results52, go_sem, *]) rfl ?_)
    refine ⟨six_over HT.out (Z := w.heap.size) (Nat.le_refl _) _ _ _ _ _ _, HP1.out.same ?_, _, rfl, leaf_fresh p⟩
    have hne : R ≠ w.heap.size := by omega
    rw [heap_setCell_other _ _ _ _ hne, heap_setCell_other _ _ _ _ hne, heap_setCell_other _ _ _ _ hne, heap_setCell_other _ _ _ _ hne, heap_setCell_other _ _ _ _ hne, heap_setCell_other _ _ _ _ hne]
set_option maxHeartbeats 8000000 in
set_option maxRecDepth 100000 in
/-- The closure of a list. -/
theorem beg2_any (s : List UInt8) (hl : s.length ≤ 1073741824) (R A A1 : Nat) (dp : Int) (hd0 : 0 ≤ dp) (hd1 : dp ≤ 63) (hGR : Gb R) (g : Nat) (HV : ∀ g', g' < g → ValC s g') (w : World) (tk : Tok) (many : Int) (hP : PRow w R s tk many) (hGl : Glb w) (hA : w.heap[A]? = some (.cells #[.pointer (some ⟨R, 0, none⟩)] 58 (0, 0)))
    (hA1 : w.heap[A1]? = some (.cells #[.int .i64 dp] 3 (0, 0))) (hm0 : 0 ≤ many) (hm : many ≤ 4096) (hf : 2 * (4096 - many) + 2 ≤ g) :
    Calls Tryz.prog 53 #[.pointer (some ⟨A, 0, none⟩), .pointer (some ⟨A1, 0, none⟩)] w (ValPost w R s (nodeR 10 (manyR s g false dp tk many))) := by
  have hb0 : Below w.heap.size w (w.alloc (.cells zC.toArray 27)) := (Below.refl _ w).alloc (Nat.le_refl _) _
  have HN := Lib.hid (list_any s hl R dp hd0 hd1 hGR g HV (w.alloc (.cells zC.toArray 27)) tk many (hP.below hb0) (hGl.below hb0 (hGR.mono (Nat.le_of_lt hP.lt))) hm0 hm hf)
  have hRs := hP.lt
  have c0 : w.cell? ⟨A, 0, none⟩ = some (.pointer (some ⟨R, 0, none⟩)) := cell_of_row _ _ _ _ _ _ hA
  have c1 : w.cell? ⟨A1, 0, none⟩ = some (.int .i64 dp) := cell_of_row _ _ _ _ _ _ hA1
  have hAs := (Array.getElem?_eq_some_iff.1 hA).1
  have hA1s := (Array.getElem?_eq_some_iff.1 hA1).1
  generalize manyR s g false dp tk many = r at *
  clear hP hGl hA hA1 HV
  go_enter Tryz.func53, Tryz.ntmps53
  go_wp2_with fail
  refine HN.out.mono ?_
  rintro o w1 ⟨ht, hn⟩
  cases r with
  | error x =>
    obtain rfl := hn
    exact ⟨rfl, (Touch.quiet hb0).trans ht, rfl⟩
  | ok p =>
    obtain ⟨ks, l, t1, m⟩ := p
    obtain ⟨hp1, v, rfl, hfr⟩ := hn
    have hz1 : w.heap.size + 1 ≤ w1.heap.size := by have := ht.size; rwa [World.size_alloc] at this
    have hx : w1.heap[w.heap.size]? = some (.cells zC.toArray 27 (0, 0)) := (ht.block _ (by simp) (by simp; omega)).trans (heap_alloc_new w _)
    obtain ⟨x0, x1, x2, x3, x4, x5, bs, rfl, hN, hnd, hge⟩ := hfr
    obtain ⟨kd1, nn1, uu1, s1, B1, m1, d1, B2, m2, d2, rfl, rfl, rfl, rfl, rfl, rfl⟩ := hN.form2
    obtain ⟨y0, y1, y2, y3, y4, y5⟩ := cells6 hx
    have f0 : w1.frozen? ⟨w.heap.size, 0, none⟩ = false := frozen_of_row _ _ _ _ _ hx
    have f1 : w1.frozen? ⟨w.heap.size, 1, none⟩ = false := frozen_of_row _ _ _ _ _ hx
    have f2 : w1.frozen? ⟨w.heap.size, 2, none⟩ = false := frozen_of_row _ _ _ _ _ hx
    have f3 : w1.frozen? ⟨w.heap.size, 3, none⟩ = false := frozen_of_row _ _ _ _ _ hx
    have f4 : w1.frozen? ⟨w.heap.size, 4, none⟩ = false := frozen_of_row _ _ _ _ _ hx
    have f5 : w1.frozen? ⟨w.heap.size, 5, none⟩ = false := frozen_of_row _ _ _ _ _ hx
    have HT := Lib.hid ((Touch.quiet hb0).trans ht)
    have HP1 := Lib.hid hp1
    have HNN := Lib.hid hN
    have HGE := Lib.hid hge
    clear ht hp1 hx HN hb0 c0 c1 hN hge
    go_wp2_with fail
    (refine bodyPost_ret (v := .agg #[.int .i64 kd1, .int .i64 nn1, .int .u64 uu1, .string s1, .slice B1 m1 d1, .slice B2 m2 d2]) (by simp [results, Tryz.results53, go_sem, *]) rfl ?_)
    have hoth : ∀ i, i ≠ w.heap.size → ((((((w1.setCell ⟨w.heap.size, 0, none⟩ (.int .i64 kd1)).setCell ⟨w.heap.size, 1, none⟩ (.int .i64 nn1)).setCell ⟨w.heap.size, 2, none⟩ (.int .u64 uu1)).setCell ⟨w.heap.size, 3, none⟩ (.string s1)).setCell ⟨w.heap.size, 4, none⟩ (.slice B1 m1 d1)).setCell ⟨w.heap.size, 5, none⟩ (.slice B2 m2 d2)).heap[i]? = w1.heap[i]? := by
      intro i hne
      rw [heap_setCell_other _ _ _ _ hne, heap_setCell_other _ _ _ _ hne, heap_setCell_other _ _ _ _ hne, heap_setCell_other _ _ _ _ hne, heap_setCell_other _ _ _ _ hne, heap_setCell_other _ _ _ _ hne]
    exact ⟨six_over HT.out (Z := w.heap.size) (Nat.le_refl _) _ _ _ _ _ _, HP1.out.same (hoth R (by omega)), _, rfl, _, _, _, _, _, _, bs, rfl, NRep.same _ _ _ HNN.out fun i hi => hoth i (by have := HGE.out i hi; rw [World.size_alloc] at this; omega), hnd, fun i hi => by have := HGE.out i hi; rw [World.size_alloc] at this; omega⟩
set_option maxHeartbeats 8000000 in
set_option maxRecDepth 100000 in
/-- The closure of a map. -/
theorem beg3_any (s : List UInt8) (hl : s.length ≤ 1073741824) (R A A1 : Nat) (dp : Int) (hd0 : 0 ≤ dp) (hd1 : dp ≤ 63) (hGR : Gb R) (g : Nat) (HV : ∀ g', g' < g → ValC s g') (w : World) (tk : Tok) (many : Int) (hP : PRow w R s tk many) (hGl : Glb w) (hA : w.heap[A]? = some (.cells #[.pointer (some ⟨R, 0, none⟩)] 58 (0, 0)))
    (hA1 : w.heap[A1]? = some (.cells #[.int .i64 dp] 3 (0, 0))) (hm0 : 0 ≤ many) (hm : many ≤ 4096) (hf : 2 * (4096 - many) + 2 ≤ g) :
    Calls Tryz.prog 55 #[.pointer (some ⟨A, 0, none⟩), .pointer (some ⟨A1, 0, none⟩)] w (ValPost w R s (nodeR 17 (manyR s g true dp tk many))) := by
  have hb0 : Below w.heap.size w (w.alloc (.cells zC.toArray 27)) := (Below.refl _ w).alloc (Nat.le_refl _) _
  have HN := Lib.hid (members_any s hl R dp hd0 hd1 hGR g HV (w.alloc (.cells zC.toArray 27)) tk many (hP.below hb0) (hGl.below hb0 (hGR.mono (Nat.le_of_lt hP.lt))) hm0 hm hf)
  have hRs := hP.lt
  have c0 : w.cell? ⟨A, 0, none⟩ = some (.pointer (some ⟨R, 0, none⟩)) := cell_of_row _ _ _ _ _ _ hA
  have c1 : w.cell? ⟨A1, 0, none⟩ = some (.int .i64 dp) := cell_of_row _ _ _ _ _ _ hA1
  have hAs := (Array.getElem?_eq_some_iff.1 hA).1
  have hA1s := (Array.getElem?_eq_some_iff.1 hA1).1
  generalize manyR s g true dp tk many = r at *
  clear hP hGl hA hA1 HV
  go_enter Tryz.func55, Tryz.ntmps55
  go_wp2_with fail
  refine HN.out.mono ?_
  rintro o w1 ⟨ht, hn⟩
  cases r with
  | error x =>
    obtain rfl := hn
    exact ⟨rfl, (Touch.quiet hb0).trans ht, rfl⟩
  | ok p =>
    obtain ⟨ks, l, t1, m⟩ := p
    obtain ⟨hp1, v, rfl, hfr⟩ := hn
    have hz1 : w.heap.size + 1 ≤ w1.heap.size := by have := ht.size; rwa [World.size_alloc] at this
    have hx : w1.heap[w.heap.size]? = some (.cells zC.toArray 27 (0, 0)) := (ht.block _ (by simp) (by simp; omega)).trans (heap_alloc_new w _)
    obtain ⟨x0, x1, x2, x3, x4, x5, bs, rfl, hN, hnd, hge⟩ := hfr
    obtain ⟨kd1, nn1, uu1, s1, B1, m1, d1, B2, m2, d2, rfl, rfl, rfl, rfl, rfl, rfl⟩ := hN.form2
    obtain ⟨y0, y1, y2, y3, y4, y5⟩ := cells6 hx
    have f0 : w1.frozen? ⟨w.heap.size, 0, none⟩ = false := frozen_of_row _ _ _ _ _ hx
    have f1 : w1.frozen? ⟨w.heap.size, 1, none⟩ = false := frozen_of_row _ _ _ _ _ hx
    have f2 : w1.frozen? ⟨w.heap.size, 2, none⟩ = false := frozen_of_row _ _ _ _ _ hx
    have f3 : w1.frozen? ⟨w.heap.size, 3, none⟩ = false := frozen_of_row _ _ _ _ _ hx
    have f4 : w1.frozen? ⟨w.heap.size, 4, none⟩ = false := frozen_of_row _ _ _ _ _ hx
    have f5 : w1.frozen? ⟨w.heap.size, 5, none⟩ = false := frozen_of_row _ _ _ _ _ hx
    have HT := Lib.hid ((Touch.quiet hb0).trans ht)
    have HP1 := Lib.hid hp1
    have HNN := Lib.hid hN
    have HGE := Lib.hid hge
    clear ht hp1 hx HN hb0 c0 c1 hN hge
    go_wp2_with fail
    (refine bodyPost_ret (v := .agg #[.int .i64 kd1, .int .i64 nn1, .int .u64 uu1, .string s1, .slice B1 m1 d1, .slice B2 m2 d2]) (by simp [results, Tryz.results55, go_sem, *]) rfl ?_)
    have hoth : ∀ i, i ≠ w.heap.size → ((((((w1.setCell ⟨w.heap.size, 0, none⟩ (.int .i64 kd1)).setCell ⟨w.heap.size, 1, none⟩ (.int .i64 nn1)).setCell ⟨w.heap.size, 2, none⟩ (.int .u64 uu1)).setCell ⟨w.heap.size, 3, none⟩ (.string s1)).setCell ⟨w.heap.size, 4, none⟩ (.slice B1 m1 d1)).setCell ⟨w.heap.size, 5, none⟩ (.slice B2 m2 d2)).heap[i]? = w1.heap[i]? := by
      intro i hne
      rw [heap_setCell_other _ _ _ _ hne, heap_setCell_other _ _ _ _ hne, heap_setCell_other _ _ _ _ hne, heap_setCell_other _ _ _ _ hne, heap_setCell_other _ _ _ _ hne, heap_setCell_other _ _ _ _ hne]
    exact ⟨six_over HT.out (Z := w.heap.size) (Nat.le_refl _) _ _ _ _ _ _, HP1.out.same (hoth R (by omega)), _, rfl, _, _, _, _, _, _, bs, rfl, NRep.same _ _ _ HNN.out fun i hi => hoth i (by have := HGE.out i hi; rw [World.size_alloc] at this; omega), hnd, fun i hi => by have := HGE.out i hi; rw [World.size_alloc] at this; omega⟩
def pVa (A A1 P5 : Nat) (tk : Tok) : Posts := fun b t v w => match t with
  | 2 => v = .pointer (some ⟨A, 0, none⟩)
  | 3 => v = .pointer (some ⟨A1, 0, none⟩)
  | 5 => v = .pointer (some ⟨P5, 0, none⟩)
  | 6 => v = .func (.func 51) #[] #[.pointer (some ⟨A, 0, none⟩)]
  | 15 => v = .map (some b)
  | 16 => v = .func (.func 51) #[] #[.pointer (some ⟨A, 0, none⟩)]
  | 17 => v = .agg #[.int .i64 1, .int .i64 0, .int .u64 0, .string ⟨#[]⟩, .slice none 0 0, .slice none 0 0]
  | 18 => ∃ g, v = .func (.func 52) #[] #[.pointer (some ⟨A, 0, none⟩), .pointer (some ⟨g, 0, none⟩)] ∧ g ≠ b ∧ w.heap[g]? = some (.cells (rowN (begN tk 7)) 27 (0, 0))
  | 19 => v = .func (.func 51) #[] #[.pointer (some ⟨A, 0, none⟩)]
  | 20 => v = .agg #[.int .i64 2, .int .i64 0, .int .u64 0, .string ⟨#[]⟩, .slice none 0 0, .slice none 0 0]
  | 21 => ∃ g, v = .func (.func 52) #[] #[.pointer (some ⟨A, 0, none⟩), .pointer (some ⟨g, 0, none⟩)] ∧ g ≠ b ∧ w.heap[g]? = some (.cells (rowN (begN tk 8)) 27 (0, 0))
  | 22 => v = .func (.func 51) #[] #[.pointer (some ⟨A, 0, none⟩)]
  | 23 => v = .agg #[.int .i64 2, .int .i64 1, .int .u64 0, .string ⟨#[]⟩, .slice none 0 0, .slice none 0 0]
  | 24 => ∃ g, v = .func (.func 52) #[] #[.pointer (some ⟨A, 0, none⟩), .pointer (some ⟨g, 0, none⟩)] ∧ g ≠ b ∧ w.heap[g]? = some (.cells (rowN (begN tk 9)) 27 (0, 0))
  | 25 => v = .func (.func 51) #[] #[.pointer (some ⟨A, 0, none⟩)]
  | 26 => v = .pointer (some ⟨P5, 3, none⟩)
  | 27 => v = .int .i64 tk.n
  | 28 => v = .agg #[.int .i64 3, .int .i64 tk.n, .int .u64 0, .string ⟨#[]⟩, .slice none 0 0, .slice none 0 0]
  | 29 => ∃ g, v = .func (.func 52) #[] #[.pointer (some ⟨A, 0, none⟩), .pointer (some ⟨g, 0, none⟩)] ∧ g ≠ b ∧ w.heap[g]? = some (.cells (rowN (begN tk 10)) 27 (0, 0))
  | 30 => v = .func (.func 51) #[] #[.pointer (some ⟨A, 0, none⟩)]
  | 31 => v = .pointer (some ⟨P5, 4, none⟩)
  | 32 => v = .int .u64 tk.u
  | 33 => v = .agg #[.int .i64 4, .int .i64 0, .int .u64 tk.u, .string ⟨#[]⟩, .slice none 0 0, .slice none 0 0]
  | 34 => ∃ g, v = .func (.func 52) #[] #[.pointer (some ⟨A, 0, none⟩), .pointer (some ⟨g, 0, none⟩)] ∧ g ≠ b ∧ w.heap[g]? = some (.cells (rowN (begN tk 11)) 27 (0, 0))
  | 35 => v = .func (.func 51) #[] #[.pointer (some ⟨A, 0, none⟩)]
  | 36 => v = .pointer (some ⟨P5, 5, none⟩)
  | 37 => v = .string ⟨tk.text.toArray⟩
  | 38 => v = .agg #[.int .i64 6, .int .i64 0, .int .u64 0, .string ⟨tk.text.toArray⟩, .slice none 0 0, .slice none 0 0]
  | 39 => ∃ g, v = .func (.func 52) #[] #[.pointer (some ⟨A, 0, none⟩), .pointer (some ⟨g, 0, none⟩)] ∧ g ≠ b ∧ w.heap[g]? = some (.cells (rowN (begN tk 12)) 27 (0, 0))
  | 40 => v = .func (.func 53) #[] #[.pointer (some ⟨A, 0, none⟩), .pointer (some ⟨A1, 0, none⟩)]
  | 41 => v = .func (.func 55) #[] #[.pointer (some ⟨A, 0, none⟩), .pointer (some ⟨A1, 0, none⟩)]
  | 42 => v = .map (some b)
  | 7 => v = .map (some b)
  | _ => True
theorem pVa_st (A A1 P5 : Nat) (tk : Tok) : ∀ (b : Nat) (t : Tmp) (v : Value) (w w' : World), ExtB b w w' → pVa A A1 P5 tk b t v w → pVa A A1 P5 tk b t v w' := by
  intro b t v w w' hE
  unfold pVa
  split
  · exact id
  · exact id
  · exact id
  · exact id
  · exact id
  · exact id
  · exact id
  · rintro ⟨g, h1, h2, h3⟩
    exact ⟨g, h1, h2, stayB hE h3 h2⟩
  · exact id
  · exact id
  · rintro ⟨g, h1, h2, h3⟩
    exact ⟨g, h1, h2, stayB hE h3 h2⟩
  · exact id
  · exact id
  · rintro ⟨g, h1, h2, h3⟩
    exact ⟨g, h1, h2, stayB hE h3 h2⟩
  · exact id
  · exact id
  · exact id
  · exact id
  · rintro ⟨g, h1, h2, h3⟩
    exact ⟨g, h1, h2, stayB hE h3 h2⟩
  · exact id
  · exact id
  · exact id
  · exact id
  · rintro ⟨g, h1, h2, h3⟩
    exact ⟨g, h1, h2, stayB hE h3 h2⟩
  · exact id
  · exact id
  · exact id
  · exact id
  · rintro ⟨g, h1, h2, h3⟩
    exact ⟨g, h1, h2, stayB hE h3 h2⟩
  · exact id
  · exact id
  · exact id
  · exact id
  · exact id
def vbegR (s : List UInt8) (g : Nat) (dp : Int) (tk : Tok) (m : Int) : VR :=
  if tk.kind = 3 then nodeR 10 (manyR s g false dp tk m) else if tk.kind = 1 then nodeR 17 (manyR s g true dp tk m) else leafR s tk m (leafP tk)
theorem val_succ (s : List UInt8) (g : Nat) (dp : Int) (tk : Tok) (many : Int) : valP s (g + 1) dp tk many =
    if bgB tk.kind = false then .error (tk.from_, 100) else if 4096 ≤ many then .error (tk.from_, 5) else if 64 ≤ dp then .error (tk.from_, 61) else vbegR s g dp tk (many + 1) := by
  rw [valP]
  split
  · rfl
  split
  · rfl
  split
  · rfl
  unfold vbegR nodeR manyR leafR
  by_cases h3 : tk.kind = 3
  · cases nextP s tk with
    | error x => simp [h3]
    | ok t1 =>
      simp [h3]
      cases eachP s g false (dp + 1) t1 (many + 1) [] [] <;> rfl
  · by_cases h1 : tk.kind = 1
    · cases nextP s tk with
      | error x => simp [h1]
      | ok t1 =>
        simp [h1]
        cases eachP s g true (dp + 1) t1 (many + 1) [] [] <;> rfl
    · cases nextP s tk with
      | error x => simp [h1, h3]
      | ok t1 => simp [h1, h3]
set_option maxHeartbeats 32000000 in
set_option maxRecDepth 100000 in
theorem value_step (s : List UInt8) (hl : s.length ≤ 1073741824) (g : Nat) (HV : ∀ g', g' < g → ValC s g') : ValC s g := by
  intro dp tk many R w hP hGl hGR hm0 hm hf hd0 hd1
  obtain ⟨g, rfl⟩ : ∃ k, g = k + 1 := ⟨g - 1, by omega⟩
  rw [val_succ]
  generalize hres : (if bgB tk.kind = false then (.error (tk.from_, 100) : VR) else if 4096 ≤ many then .error (tk.from_, 5) else if 64 ≤ dp then .error (tk.from_, 61) else vbegR s g dp tk (many + 1)) = res
  have HRES := Lib.hid hres
  clear hres
  have hR := hP.lt
  obtain ⟨c0, c1, c2, c3, c4, c5, c6, c7, cf⟩ := hP.cells
  unfold strV at c0 c6
  have HP := Lib.hid hP
  have HGL := Lib.hid hGl
  have HVV := Lib.hid HV
  have hkb := hP.2.2
  have hR1 : R < w.heap.size + 1 := by omega
  have hR2 : R < w.heap.size + 1 + 1 := by omega
  have hR3 : R < w.heap.size + 1 + 1 + 1 := by omega
  clear hP hGl HV
  have hmf : ∀ (fn : Fn) (first cap : Array Value) (w : World), (Instr.makeFunc fn first cap).run Tryz.prog w = .ok (.func fn first cap) w := fun _ _ _ _ => rfl
  go_enter Tryz.func27, Tryz.ntmps27
  go_upto_region 3 with fail
  have h4 := alloc4 w (.cells #[.pointer (some ⟨R, 0, none⟩)] 58) (.cells #[.int .i64 dp] 3) (.cells zC.toArray 27) (.cells #[.int .i64 tk.kind, .int .i64 tk.from_, .int .i64 tk.to_, .int .i64 tk.n, .int .u64 tk.u, .string ⟨tk.text.toArray⟩] 43)
  refine wp_named (fun wn => Below w.heap.size w wn ∧ wn.heap.size = w.heap.size + 4 ∧ wn.heap[w.heap.size]? = some (.cells #[.pointer (some ⟨R, 0, none⟩)] 58 (0, 0)) ∧ wn.heap[w.heap.size + 1]? = some (.cells #[.int .i64 dp] 3 (0, 0)) ∧ wn.heap[w.heap.size + 2]? = some (.cells zC.toArray 27 (0, 0)) ∧ wn.heap[w.heap.size + 3]? = some (.cells #[.int .i64 tk.kind, .int .i64 tk.from_, .int .i64 tk.to_, .int .i64 tk.n, .int .u64 tk.u, .string ⟨tk.text.toArray⟩] 43 (0, 0))) ⟨by exact zw, by simp, h4.1, h4.2.1, h4.2.2.1, h4.2.2.2⟩ ?_
  clear h4
  rintro wn ⟨hbn, hzn, h0, h1, h2, h3⟩
  have h5s : w.heap.size + 1 + 1 + 1 < wn.heap.size := by omega
  have h5n : wn.cell? ⟨w.heap.size + 1 + 1 + 1, 3, none⟩ = some (.int .i64 tk.n) := cell_of_row _ _ _ _ _ _ h3
  have h5u : wn.cell? ⟨w.heap.size + 1 + 1 + 1, 4, none⟩ = some (.int .u64 tk.u) := cell_of_row _ _ _ _ _ _ h3
  have h5t : wn.cell? ⟨w.heap.size + 1 + 1 + 1, 5, none⟩ = some (.string ⟨tk.text.toArray⟩) := cell_of_row _ _ _ _ _ _ h3
  have HBN := Lib.hid hbn
  have H0 := Lib.hid h0
  have H1 := Lib.hid h1
  have H2 := Lib.hid h2
  have H3 := Lib.hid h3
  clear c0 c1 c2 c3 c4 c5 c6 c7 cf h0 h1 h2 h3 hbn
  obtain ⟨A, hA⟩ : ∃ A, A = w.heap.size := ⟨_, rfl⟩
  rw [← hA] at hR hzn h5s h5n h5u h5t HBN H0 H1 H2 H3 ⊢
  clear hR1 hR2 hR3
  obtain ⟨P5, hP5⟩ : ∃ P5, A + 1 + 1 + 1 = P5 := ⟨_, rfl⟩
  obtain ⟨X, hX⟩ : ∃ X, A + 1 + 1 = X := ⟨_, rfl⟩
  obtain ⟨A1, hA1⟩ : ∃ A1, A + 1 = A1 := ⟨_, rfl⟩
  have H3 : Hid (wn.heap[P5]? = some (.cells #[.int .i64 tk.kind, .int .i64 tk.from_, .int .i64 tk.to_, .int .i64 tk.n, .int .u64 tk.u, .string ⟨tk.text.toArray⟩] 43 (0, 0))) := by rw [← hP5]; exact H3
  have H2 : Hid (wn.heap[X]? = some (.cells zC.toArray 27 (0, 0))) := by rw [← hX]; exact H2
  have H1 : Hid (wn.heap[A1]? = some (.cells #[.int .i64 dp] 3 (0, 0))) := by rw [← hA1]; exact H1
  rw [hP5] at h5s h5n h5u h5t
  rw [hP5, hX, hA1]
  have HA := Lib.hid (show A1 = A + 1 ∧ X = A + 2 ∧ P5 = A + 3 ∧ A = w.heap.size from ⟨by omega, by omega, by omega, hA⟩)
  clear hP5 hX hA1 hA
  refine wp_region_eachMP (n := 73) (ia := 0) (ob := .map #[] 0) [4, 8, 12, 18, 24, 30, 32, 34] [15, 16, 17, 18, 19, 20, 21, 22, 23, 24, 25, 26, 27, 28, 29, 30, 31, 32, 33, 34, 35, 36, 37, 38, 39, 40, 41, 42, 7] (pVa A A1 P5 tk) (blkM A A1 tk) (by kernel_rfl) (by kernel_rfl) rfl (by kernel_rfl) (pVa_st A A1 P5 tk) (blkM_st A A1 tk) (blkM_sc A A1 tk) ?_ rfl rfl rfl (V := fun b => .map (some b)) ?_ (fun _ _ => rfl) ?_ (by decide) (by decide) ?_ ?_ ?_ ?_
  · intro b hb t ht
    unfold pVa
    split
    · rfl
    · rfl
    · rfl
    · rfl
    · exact absurd rfl (ht 0 _ rfl)
    · exact absurd rfl (ht 1 _ rfl)
    · exact absurd rfl (ht 2 _ rfl)
    · exact absurd rfl (ht 3 _ rfl)
    · exact absurd rfl (ht 5 _ rfl)
    · exact absurd rfl (ht 6 _ rfl)
    · exact absurd rfl (ht 7 _ rfl)
    · exact absurd rfl (ht 9 _ rfl)
    · exact absurd rfl (ht 10 _ rfl)
    · exact absurd rfl (ht 11 _ rfl)
    · exact absurd rfl (ht 13 _ rfl)
    · exact absurd rfl (ht 14 _ rfl)
    · exact absurd rfl (ht 15 _ rfl)
    · exact absurd rfl (ht 16 _ rfl)
    · exact absurd rfl (ht 17 _ rfl)
    · exact absurd rfl (ht 19 _ rfl)
    · exact absurd rfl (ht 20 _ rfl)
    · exact absurd rfl (ht 21 _ rfl)
    · exact absurd rfl (ht 22 _ rfl)
    · exact absurd rfl (ht 23 _ rfl)
    · exact absurd rfl (ht 25 _ rfl)
    · exact absurd rfl (ht 26 _ rfl)
    · exact absurd rfl (ht 27 _ rfl)
    · exact absurd rfl (ht 28 _ rfl)
    · exact absurd rfl (ht 29 _ rfl)
    · exact absurd rfl (ht 31 _ rfl)
    · exact absurd rfl (ht 33 _ rfl)
    · exact absurd rfl (ht 35 _ rfl)
    · exact absurd rfl (ht 36 _ rfl)
    · trivial
  · intro a w K hK
    exact opwp_mm rfl hK
  · intro w
    exact ⟨fun _ => none, MapIs.made w, (fun n v e => by cases e), (fun i _ h => by cases h)⟩
  · intro i hi os hos
    simp only [List.mem_cons, List.not_mem_nil, or_false] at hi
    rcases hi with rfl | rfl | rfl | rfl | rfl | rfl | rfl | rfl
    all_goals
      simp only [List.getElem?_toArray, List.getElem?_cons_zero, List.getElem?_cons_succ, Option.some.injEq] at hos
      subst hos
      exact ⟨rfl, by kernel_rfl⟩
  · intro i hi os hos b S a w hb hb1 hb2 hk hSi hblk
    simp only [List.mem_cons, List.not_mem_nil, or_false] at hi
    rcases hi with rfl | rfl | rfl | rfl | rfl | rfl | rfl | rfl
    · simp only [List.getElem?_toArray, List.getElem?_cons_zero, List.getElem?_cons_succ, Option.some.injEq] at hos
      subst hos
      have e15 : a.eval (.tmp 15) = .map (some b) := hk 15 (by decide)
      obtain ⟨g, e18, hg1, hg2⟩ : ∃ g, a.eval (.tmp 18) = .func (.func 52) #[] #[.pointer (some ⟨A, 0, none⟩), .pointer (some ⟨g, 0, none⟩)] ∧ g ≠ b ∧ w.heap[g]? = some (.cells (rowN (begN tk 7)) 27 (0, 0)) := hk 18 (by decide)
      obtain ⟨ob, hr, hbl⟩ := blkM_put hblk (i := 4) (by decide) (.inr (.inr ⟨by decide, by decide, g, rfl, hg1, hg2⟩))
      refine ⟨rfl, opwp_ins rfl rfl e15 e18 hr ?_⟩
      exact ⟨rfl, ⟨by rw [size_setBlock]; exact Nat.le_refl _, fun k hk hne => heap_setBlock_other w b k ob hne⟩, size_setBlock _ _ _, below_block hb hb1 ob, hbl⟩
    · simp only [List.getElem?_toArray, List.getElem?_cons_zero, List.getElem?_cons_succ, Option.some.injEq] at hos
      subst hos
      have e15 : a.eval (.tmp 15) = .map (some b) := hk 15 (by decide)
      obtain ⟨g, e21, hg1, hg2⟩ : ∃ g, a.eval (.tmp 21) = .func (.func 52) #[] #[.pointer (some ⟨A, 0, none⟩), .pointer (some ⟨g, 0, none⟩)] ∧ g ≠ b ∧ w.heap[g]? = some (.cells (rowN (begN tk 8)) 27 (0, 0)) := hk 21 (by decide)
      obtain ⟨ob, hr, hbl⟩ := blkM_put hblk (i := 8) (by decide) (.inr (.inr ⟨by decide, by decide, g, rfl, hg1, hg2⟩))
      refine ⟨rfl, opwp_ins rfl rfl e15 e21 hr ?_⟩
      exact ⟨rfl, ⟨by rw [size_setBlock]; exact Nat.le_refl _, fun k hk hne => heap_setBlock_other w b k ob hne⟩, size_setBlock _ _ _, below_block hb hb1 ob, hbl⟩
    · simp only [List.getElem?_toArray, List.getElem?_cons_zero, List.getElem?_cons_succ, Option.some.injEq] at hos
      subst hos
      have e15 : a.eval (.tmp 15) = .map (some b) := hk 15 (by decide)
      obtain ⟨g, e24, hg1, hg2⟩ : ∃ g, a.eval (.tmp 24) = .func (.func 52) #[] #[.pointer (some ⟨A, 0, none⟩), .pointer (some ⟨g, 0, none⟩)] ∧ g ≠ b ∧ w.heap[g]? = some (.cells (rowN (begN tk 9)) 27 (0, 0)) := hk 24 (by decide)
      obtain ⟨ob, hr, hbl⟩ := blkM_put hblk (i := 12) (by decide) (.inr (.inr ⟨by decide, by decide, g, rfl, hg1, hg2⟩))
      refine ⟨rfl, opwp_ins rfl rfl e15 e24 hr ?_⟩
      exact ⟨rfl, ⟨by rw [size_setBlock]; exact Nat.le_refl _, fun k hk hne => heap_setBlock_other w b k ob hne⟩, size_setBlock _ _ _, below_block hb hb1 ob, hbl⟩
    · simp only [List.getElem?_toArray, List.getElem?_cons_zero, List.getElem?_cons_succ, Option.some.injEq] at hos
      subst hos
      have e15 : a.eval (.tmp 15) = .map (some b) := hk 15 (by decide)
      obtain ⟨g, e29, hg1, hg2⟩ : ∃ g, a.eval (.tmp 29) = .func (.func 52) #[] #[.pointer (some ⟨A, 0, none⟩), .pointer (some ⟨g, 0, none⟩)] ∧ g ≠ b ∧ w.heap[g]? = some (.cells (rowN (begN tk 10)) 27 (0, 0)) := hk 29 (by decide)
      obtain ⟨ob, hr, hbl⟩ := blkM_put hblk (i := 18) (by decide) (.inr (.inr ⟨by decide, by decide, g, rfl, hg1, hg2⟩))
      refine ⟨rfl, opwp_ins rfl rfl e15 e29 hr ?_⟩
      exact ⟨rfl, ⟨by rw [size_setBlock]; exact Nat.le_refl _, fun k hk hne => heap_setBlock_other w b k ob hne⟩, size_setBlock _ _ _, below_block hb hb1 ob, hbl⟩
    · simp only [List.getElem?_toArray, List.getElem?_cons_zero, List.getElem?_cons_succ, Option.some.injEq] at hos
      subst hos
      have e15 : a.eval (.tmp 15) = .map (some b) := hk 15 (by decide)
      obtain ⟨g, e34, hg1, hg2⟩ : ∃ g, a.eval (.tmp 34) = .func (.func 52) #[] #[.pointer (some ⟨A, 0, none⟩), .pointer (some ⟨g, 0, none⟩)] ∧ g ≠ b ∧ w.heap[g]? = some (.cells (rowN (begN tk 11)) 27 (0, 0)) := hk 34 (by decide)
      obtain ⟨ob, hr, hbl⟩ := blkM_put hblk (i := 24) (by decide) (.inr (.inr ⟨by decide, by decide, g, rfl, hg1, hg2⟩))
      refine ⟨rfl, opwp_ins rfl rfl e15 e34 hr ?_⟩
      exact ⟨rfl, ⟨by rw [size_setBlock]; exact Nat.le_refl _, fun k hk hne => heap_setBlock_other w b k ob hne⟩, size_setBlock _ _ _, below_block hb hb1 ob, hbl⟩
    · simp only [List.getElem?_toArray, List.getElem?_cons_zero, List.getElem?_cons_succ, Option.some.injEq] at hos
      subst hos
      have e15 : a.eval (.tmp 15) = .map (some b) := hk 15 (by decide)
      obtain ⟨g, e39, hg1, hg2⟩ : ∃ g, a.eval (.tmp 39) = .func (.func 52) #[] #[.pointer (some ⟨A, 0, none⟩), .pointer (some ⟨g, 0, none⟩)] ∧ g ≠ b ∧ w.heap[g]? = some (.cells (rowN (begN tk 12)) 27 (0, 0)) := hk 39 (by decide)
      obtain ⟨ob, hr, hbl⟩ := blkM_put hblk (i := 30) (by decide) (.inr (.inr ⟨by decide, by decide, g, rfl, hg1, hg2⟩))
      refine ⟨rfl, opwp_ins rfl rfl e15 e39 hr ?_⟩
      exact ⟨rfl, ⟨by rw [size_setBlock]; exact Nat.le_refl _, fun k hk hne => heap_setBlock_other w b k ob hne⟩, size_setBlock _ _ _, below_block hb hb1 ob, hbl⟩
    · simp only [List.getElem?_toArray, List.getElem?_cons_zero, List.getElem?_cons_succ, Option.some.injEq] at hos
      subst hos
      have e15 : a.eval (.tmp 15) = .map (some b) := hk 15 (by decide)
      have e40 : a.eval (.tmp 40) = .func (.func 53) #[] #[.pointer (some ⟨A, 0, none⟩), .pointer (some ⟨A1, 0, none⟩)] := hk 40 (by decide)
      obtain ⟨ob, hr, hbl⟩ := blkM_put hblk (i := 32) (by decide) (.inl ⟨rfl, rfl⟩)
      refine ⟨rfl, opwp_ins rfl rfl e15 e40 hr ?_⟩
      exact ⟨rfl, ⟨by rw [size_setBlock]; exact Nat.le_refl _, fun k hk hne => heap_setBlock_other w b k ob hne⟩, size_setBlock _ _ _, below_block hb hb1 ob, hbl⟩
    · simp only [List.getElem?_toArray, List.getElem?_cons_zero, List.getElem?_cons_succ, Option.some.injEq] at hos
      subst hos
      have e15 : a.eval (.tmp 15) = .map (some b) := hk 15 (by decide)
      have e41 : a.eval (.tmp 41) = .func (.func 55) #[] #[.pointer (some ⟨A, 0, none⟩), .pointer (some ⟨A1, 0, none⟩)] := hk 41 (by decide)
      obtain ⟨ob, hr, hbl⟩ := blkM_put hblk (i := 34) (by decide) (.inr (.inl ⟨rfl, rfl⟩))
      refine ⟨rfl, opwp_ins rfl rfl e15 e41 hr ?_⟩
      exact ⟨rfl, ⟨by rw [size_setBlock]; exact Nat.le_refl _, fun k hk hne => heap_setBlock_other w b k ob hne⟩, size_setBlock _ _ _, below_block hb hb1 ob, hbl⟩
  · intro jq oq hjq hne1 hne2
    match jq, hjq, hne1, hne2 with
    | 0, hjq, h, _ => exact absurd rfl h
    | 1, hjq, _, _ =>
      simp only [List.getElem?_toArray, List.getElem?_cons_zero, List.getElem?_cons_succ, Option.some.injEq] at hjq
      subst hjq
      intro B a w hB hb hk
      obtain ⟨b0, hb0⟩ := hB
      have e6 : a.eval (.tmp 6) = .func (.func 51) #[] #[.pointer (some ⟨A, 0, none⟩)] := hk b0 hb0 6 (by decide)
      refine ⟨rfl, opwp_move rfl e6 ?_⟩
      exact ⟨Below.refl _ _, _, rfl, fun d hd b _ _ => by cases hd; rfl⟩
    | 2, hjq, _, _ =>
      simp only [List.getElem?_toArray, List.getElem?_cons_zero, List.getElem?_cons_succ, Option.some.injEq] at hjq
      subst hjq
      intro B a w hB hb hk
      obtain ⟨b0, hb0⟩ := hB
      refine ⟨rfl, opwp_bu1 rfl ?_⟩
      exact ⟨Below.refl _ _, _, rfl, fun d hd b _ _ => by cases hd; rfl⟩
    | 3, hjq, _, _ =>
      simp only [List.getElem?_toArray, List.getElem?_cons_zero, List.getElem?_cons_succ, Option.some.injEq] at hjq
      subst hjq
      intro B a w hB hb hk
      obtain ⟨b0, hb0⟩ := hB
      have e16 : a.eval (.tmp 16) = .func (.func 51) #[] #[.pointer (some ⟨A, 0, none⟩)] := hk b0 hb0 16 (by decide)
      have e17 : a.eval (.tmp 17) = .agg #[.int .i64 1, .int .i64 0, .int .u64 0, .string ⟨#[]⟩, .slice none 0 0, .slice none 0 0] := hk b0 hb0 17 (by decide)
      refine ⟨rfl, opwp_call (fun v w' => Below w.heap.size w w' ∧ ∀ b, B b → (b < w.heap.size ∨ w'.heap.size ≤ b) → ∃ g, v = .func (.func 52) #[] #[.pointer (some ⟨A, 0, none⟩), .pointer (some ⟨g, 0, none⟩)] ∧ g ≠ b ∧ w'.heap[g]? = some (.cells (rowN (begN tk 7)) 27 (0, 0))) (exec_callV #[.pointer (some ⟨A, 0, none⟩)] [a.eval (.tmp 17)] Tryz.func51 (by kernel_rfl) rfl rfl e16 rfl) ?_ ?_⟩
      · rw [e17]
        refine (plain_any2 A (1) (0) (0) ⟨#[]⟩ none 0 0 none 0 0 w).mono ?_
        rintro o w' ⟨rfl, rfl⟩
        exact ⟨_, rfl, (Below.refl _ w).alloc (Nat.le_refl _) _, fun b _ hbb => ⟨w.heap.size, rfl, by rw [World.size_alloc] at hbb; omega, heap_alloc_new _ _⟩⟩
      · rintro v w' ⟨h, hv⟩
        exact ⟨h, _, rfl, fun d hd b hbB hbb => by cases hd; exact hv b hbB hbb⟩
    | 4, hjq, _, h => exact absurd (by decide) h
    | 5, hjq, _, _ =>
      simp only [List.getElem?_toArray, List.getElem?_cons_zero, List.getElem?_cons_succ, Option.some.injEq] at hjq
      subst hjq
      intro B a w hB hb hk
      obtain ⟨b0, hb0⟩ := hB
      have e6 : a.eval (.tmp 6) = .func (.func 51) #[] #[.pointer (some ⟨A, 0, none⟩)] := hk b0 hb0 6 (by decide)
      refine ⟨rfl, opwp_move rfl e6 ?_⟩
      exact ⟨Below.refl _ _, _, rfl, fun d hd b _ _ => by cases hd; rfl⟩
    | 6, hjq, _, _ =>
      simp only [List.getElem?_toArray, List.getElem?_cons_zero, List.getElem?_cons_succ, Option.some.injEq] at hjq
      subst hjq
      intro B a w hB hb hk
      obtain ⟨b0, hb0⟩ := hB
      refine ⟨rfl, opwp_bu1 rfl ?_⟩
      exact ⟨Below.refl _ _, _, rfl, fun d hd b _ _ => by cases hd; rfl⟩
    | 7, hjq, _, _ =>
      simp only [List.getElem?_toArray, List.getElem?_cons_zero, List.getElem?_cons_succ, Option.some.injEq] at hjq
      subst hjq
      intro B a w hB hb hk
      obtain ⟨b0, hb0⟩ := hB
      have e19 : a.eval (.tmp 19) = .func (.func 51) #[] #[.pointer (some ⟨A, 0, none⟩)] := hk b0 hb0 19 (by decide)
      have e20 : a.eval (.tmp 20) = .agg #[.int .i64 2, .int .i64 0, .int .u64 0, .string ⟨#[]⟩, .slice none 0 0, .slice none 0 0] := hk b0 hb0 20 (by decide)
      refine ⟨rfl, opwp_call (fun v w' => Below w.heap.size w w' ∧ ∀ b, B b → (b < w.heap.size ∨ w'.heap.size ≤ b) → ∃ g, v = .func (.func 52) #[] #[.pointer (some ⟨A, 0, none⟩), .pointer (some ⟨g, 0, none⟩)] ∧ g ≠ b ∧ w'.heap[g]? = some (.cells (rowN (begN tk 8)) 27 (0, 0))) (exec_callV #[.pointer (some ⟨A, 0, none⟩)] [a.eval (.tmp 20)] Tryz.func51 (by kernel_rfl) rfl rfl e19 rfl) ?_ ?_⟩
      · rw [e20]
        refine (plain_any2 A (2) (0) (0) ⟨#[]⟩ none 0 0 none 0 0 w).mono ?_
        rintro o w' ⟨rfl, rfl⟩
        exact ⟨_, rfl, (Below.refl _ w).alloc (Nat.le_refl _) _, fun b _ hbb => ⟨w.heap.size, rfl, by rw [World.size_alloc] at hbb; omega, heap_alloc_new _ _⟩⟩
      · rintro v w' ⟨h, hv⟩
        exact ⟨h, _, rfl, fun d hd b hbB hbb => by cases hd; exact hv b hbB hbb⟩
    | 8, hjq, _, h => exact absurd (by decide) h
    | 9, hjq, _, _ =>
      simp only [List.getElem?_toArray, List.getElem?_cons_zero, List.getElem?_cons_succ, Option.some.injEq] at hjq
      subst hjq
      intro B a w hB hb hk
      obtain ⟨b0, hb0⟩ := hB
      have e6 : a.eval (.tmp 6) = .func (.func 51) #[] #[.pointer (some ⟨A, 0, none⟩)] := hk b0 hb0 6 (by decide)
      refine ⟨rfl, opwp_move rfl e6 ?_⟩
      exact ⟨Below.refl _ _, _, rfl, fun d hd b _ _ => by cases hd; rfl⟩
    | 10, hjq, _, _ =>
      simp only [List.getElem?_toArray, List.getElem?_cons_zero, List.getElem?_cons_succ, Option.some.injEq] at hjq
      subst hjq
      intro B a w hB hb hk
      obtain ⟨b0, hb0⟩ := hB
      refine ⟨rfl, opwp_bu2 rfl ?_⟩
      exact ⟨Below.refl _ _, _, rfl, fun d hd b _ _ => by cases hd; rfl⟩
    | 11, hjq, _, _ =>
      simp only [List.getElem?_toArray, List.getElem?_cons_zero, List.getElem?_cons_succ, Option.some.injEq] at hjq
      subst hjq
      intro B a w hB hb hk
      obtain ⟨b0, hb0⟩ := hB
      have e22 : a.eval (.tmp 22) = .func (.func 51) #[] #[.pointer (some ⟨A, 0, none⟩)] := hk b0 hb0 22 (by decide)
      have e23 : a.eval (.tmp 23) = .agg #[.int .i64 2, .int .i64 1, .int .u64 0, .string ⟨#[]⟩, .slice none 0 0, .slice none 0 0] := hk b0 hb0 23 (by decide)
      refine ⟨rfl, opwp_call (fun v w' => Below w.heap.size w w' ∧ ∀ b, B b → (b < w.heap.size ∨ w'.heap.size ≤ b) → ∃ g, v = .func (.func 52) #[] #[.pointer (some ⟨A, 0, none⟩), .pointer (some ⟨g, 0, none⟩)] ∧ g ≠ b ∧ w'.heap[g]? = some (.cells (rowN (begN tk 9)) 27 (0, 0))) (exec_callV #[.pointer (some ⟨A, 0, none⟩)] [a.eval (.tmp 23)] Tryz.func51 (by kernel_rfl) rfl rfl e22 rfl) ?_ ?_⟩
      · rw [e23]
        refine (plain_any2 A (2) (1) (0) ⟨#[]⟩ none 0 0 none 0 0 w).mono ?_
        rintro o w' ⟨rfl, rfl⟩
        exact ⟨_, rfl, (Below.refl _ w).alloc (Nat.le_refl _) _, fun b _ hbb => ⟨w.heap.size, rfl, by rw [World.size_alloc] at hbb; omega, heap_alloc_new _ _⟩⟩
      · rintro v w' ⟨h, hv⟩
        exact ⟨h, _, rfl, fun d hd b hbB hbb => by cases hd; exact hv b hbB hbb⟩
    | 12, hjq, _, h => exact absurd (by decide) h
    | 13, hjq, _, _ =>
      simp only [List.getElem?_toArray, List.getElem?_cons_zero, List.getElem?_cons_succ, Option.some.injEq] at hjq
      subst hjq
      intro B a w hB hb hk
      obtain ⟨b0, hb0⟩ := hB
      have e6 : a.eval (.tmp 6) = .func (.func 51) #[] #[.pointer (some ⟨A, 0, none⟩)] := hk b0 hb0 6 (by decide)
      refine ⟨rfl, opwp_move rfl e6 ?_⟩
      exact ⟨Below.refl _ _, _, rfl, fun d hd b _ _ => by cases hd; rfl⟩
    | 14, hjq, _, _ =>
      simp only [List.getElem?_toArray, List.getElem?_cons_zero, List.getElem?_cons_succ, Option.some.injEq] at hjq
      subst hjq
      intro B a w hB hb hk
      obtain ⟨b0, hb0⟩ := hB
      have e5 : a.eval (.tmp 5) = .pointer (some ⟨P5, 0, none⟩) := hk b0 hb0 5 (by decide)
      refine ⟨rfl, opwp_faK3 rfl e5 ?_⟩
      exact ⟨Below.refl _ _, _, rfl, fun d hd b _ _ => by cases hd; rfl⟩
    | 15, hjq, _, _ =>
      simp only [List.getElem?_toArray, List.getElem?_cons_zero, List.getElem?_cons_succ, Option.some.injEq] at hjq
      subst hjq
      intro B a w hB hb hk
      obtain ⟨b0, hb0⟩ := hB
      have e26 : a.eval (.tmp 26) = .pointer (some ⟨P5, 3, none⟩) := hk b0 hb0 26 (by decide)
      refine ⟨rfl, opwp_ldJ rfl e26 ((hb.cell (p := ⟨P5, 3, none⟩) h5s).trans h5n) ?_⟩
      exact ⟨Below.refl _ _, _, rfl, fun d hd b _ _ => by cases hd; rfl⟩
    | 16, hjq, _, _ =>
      simp only [List.getElem?_toArray, List.getElem?_cons_zero, List.getElem?_cons_succ, Option.some.injEq] at hjq
      subst hjq
      intro B a w hB hb hk
      obtain ⟨b0, hb0⟩ := hB
      have e27 : a.eval (.tmp 27) = .int .i64 tk.n := hk b0 hb0 27 (by decide)
      refine ⟨rfl, opwp_buN rfl e27 ?_⟩
      exact ⟨Below.refl _ _, _, rfl, fun d hd b _ _ => by cases hd; rfl⟩
    | 17, hjq, _, _ =>
      simp only [List.getElem?_toArray, List.getElem?_cons_zero, List.getElem?_cons_succ, Option.some.injEq] at hjq
      subst hjq
      intro B a w hB hb hk
      obtain ⟨b0, hb0⟩ := hB
      have e25 : a.eval (.tmp 25) = .func (.func 51) #[] #[.pointer (some ⟨A, 0, none⟩)] := hk b0 hb0 25 (by decide)
      have e28 : a.eval (.tmp 28) = .agg #[.int .i64 3, .int .i64 tk.n, .int .u64 0, .string ⟨#[]⟩, .slice none 0 0, .slice none 0 0] := hk b0 hb0 28 (by decide)
      refine ⟨rfl, opwp_call (fun v w' => Below w.heap.size w w' ∧ ∀ b, B b → (b < w.heap.size ∨ w'.heap.size ≤ b) → ∃ g, v = .func (.func 52) #[] #[.pointer (some ⟨A, 0, none⟩), .pointer (some ⟨g, 0, none⟩)] ∧ g ≠ b ∧ w'.heap[g]? = some (.cells (rowN (begN tk 10)) 27 (0, 0))) (exec_callV #[.pointer (some ⟨A, 0, none⟩)] [a.eval (.tmp 28)] Tryz.func51 (by kernel_rfl) rfl rfl e25 rfl) ?_ ?_⟩
      · rw [e28]
        refine (plain_any2 A (3) (tk.n) (0) ⟨#[]⟩ none 0 0 none 0 0 w).mono ?_
        rintro o w' ⟨rfl, rfl⟩
        exact ⟨_, rfl, (Below.refl _ w).alloc (Nat.le_refl _) _, fun b _ hbb => ⟨w.heap.size, rfl, by rw [World.size_alloc] at hbb; omega, heap_alloc_new _ _⟩⟩
      · rintro v w' ⟨h, hv⟩
        exact ⟨h, _, rfl, fun d hd b hbB hbb => by cases hd; exact hv b hbB hbb⟩
    | 18, hjq, _, h => exact absurd (by decide) h
    | 19, hjq, _, _ =>
      simp only [List.getElem?_toArray, List.getElem?_cons_zero, List.getElem?_cons_succ, Option.some.injEq] at hjq
      subst hjq
      intro B a w hB hb hk
      obtain ⟨b0, hb0⟩ := hB
      have e6 : a.eval (.tmp 6) = .func (.func 51) #[] #[.pointer (some ⟨A, 0, none⟩)] := hk b0 hb0 6 (by decide)
      refine ⟨rfl, opwp_move rfl e6 ?_⟩
      exact ⟨Below.refl _ _, _, rfl, fun d hd b _ _ => by cases hd; rfl⟩
    | 20, hjq, _, _ =>
      simp only [List.getElem?_toArray, List.getElem?_cons_zero, List.getElem?_cons_succ, Option.some.injEq] at hjq
      subst hjq
      intro B a w hB hb hk
      obtain ⟨b0, hb0⟩ := hB
      have e5 : a.eval (.tmp 5) = .pointer (some ⟨P5, 0, none⟩) := hk b0 hb0 5 (by decide)
      refine ⟨rfl, opwp_faK4 rfl e5 ?_⟩
      exact ⟨Below.refl _ _, _, rfl, fun d hd b _ _ => by cases hd; rfl⟩
    | 21, hjq, _, _ =>
      simp only [List.getElem?_toArray, List.getElem?_cons_zero, List.getElem?_cons_succ, Option.some.injEq] at hjq
      subst hjq
      intro B a w hB hb hk
      obtain ⟨b0, hb0⟩ := hB
      have e31 : a.eval (.tmp 31) = .pointer (some ⟨P5, 4, none⟩) := hk b0 hb0 31 (by decide)
      refine ⟨rfl, opwp_ldU rfl e31 ((hb.cell (p := ⟨P5, 4, none⟩) h5s).trans h5u) ?_⟩
      exact ⟨Below.refl _ _, _, rfl, fun d hd b _ _ => by cases hd; rfl⟩
    | 22, hjq, _, _ =>
      simp only [List.getElem?_toArray, List.getElem?_cons_zero, List.getElem?_cons_succ, Option.some.injEq] at hjq
      subst hjq
      intro B a w hB hb hk
      obtain ⟨b0, hb0⟩ := hB
      have e32 : a.eval (.tmp 32) = .int .u64 tk.u := hk b0 hb0 32 (by decide)
      refine ⟨rfl, opwp_buU rfl e32 ?_⟩
      exact ⟨Below.refl _ _, _, rfl, fun d hd b _ _ => by cases hd; rfl⟩
    | 23, hjq, _, _ =>
      simp only [List.getElem?_toArray, List.getElem?_cons_zero, List.getElem?_cons_succ, Option.some.injEq] at hjq
      subst hjq
      intro B a w hB hb hk
      obtain ⟨b0, hb0⟩ := hB
      have e30 : a.eval (.tmp 30) = .func (.func 51) #[] #[.pointer (some ⟨A, 0, none⟩)] := hk b0 hb0 30 (by decide)
      have e33 : a.eval (.tmp 33) = .agg #[.int .i64 4, .int .i64 0, .int .u64 tk.u, .string ⟨#[]⟩, .slice none 0 0, .slice none 0 0] := hk b0 hb0 33 (by decide)
      refine ⟨rfl, opwp_call (fun v w' => Below w.heap.size w w' ∧ ∀ b, B b → (b < w.heap.size ∨ w'.heap.size ≤ b) → ∃ g, v = .func (.func 52) #[] #[.pointer (some ⟨A, 0, none⟩), .pointer (some ⟨g, 0, none⟩)] ∧ g ≠ b ∧ w'.heap[g]? = some (.cells (rowN (begN tk 11)) 27 (0, 0))) (exec_callV #[.pointer (some ⟨A, 0, none⟩)] [a.eval (.tmp 33)] Tryz.func51 (by kernel_rfl) rfl rfl e30 rfl) ?_ ?_⟩
      · rw [e33]
        refine (plain_any2 A (4) (0) (tk.u) ⟨#[]⟩ none 0 0 none 0 0 w).mono ?_
        rintro o w' ⟨rfl, rfl⟩
        exact ⟨_, rfl, (Below.refl _ w).alloc (Nat.le_refl _) _, fun b _ hbb => ⟨w.heap.size, rfl, by rw [World.size_alloc] at hbb; omega, heap_alloc_new _ _⟩⟩
      · rintro v w' ⟨h, hv⟩
        exact ⟨h, _, rfl, fun d hd b hbB hbb => by cases hd; exact hv b hbB hbb⟩
    | 24, hjq, _, h => exact absurd (by decide) h
    | 25, hjq, _, _ =>
      simp only [List.getElem?_toArray, List.getElem?_cons_zero, List.getElem?_cons_succ, Option.some.injEq] at hjq
      subst hjq
      intro B a w hB hb hk
      obtain ⟨b0, hb0⟩ := hB
      have e6 : a.eval (.tmp 6) = .func (.func 51) #[] #[.pointer (some ⟨A, 0, none⟩)] := hk b0 hb0 6 (by decide)
      refine ⟨rfl, opwp_move rfl e6 ?_⟩
      exact ⟨Below.refl _ _, _, rfl, fun d hd b _ _ => by cases hd; rfl⟩
    | 26, hjq, _, _ =>
      simp only [List.getElem?_toArray, List.getElem?_cons_zero, List.getElem?_cons_succ, Option.some.injEq] at hjq
      subst hjq
      intro B a w hB hb hk
      obtain ⟨b0, hb0⟩ := hB
      have e5 : a.eval (.tmp 5) = .pointer (some ⟨P5, 0, none⟩) := hk b0 hb0 5 (by decide)
      refine ⟨rfl, opwp_faK5 rfl e5 ?_⟩
      exact ⟨Below.refl _ _, _, rfl, fun d hd b _ _ => by cases hd; rfl⟩
    | 27, hjq, _, _ =>
      simp only [List.getElem?_toArray, List.getElem?_cons_zero, List.getElem?_cons_succ, Option.some.injEq] at hjq
      subst hjq
      intro B a w hB hb hk
      obtain ⟨b0, hb0⟩ := hB
      have e36 : a.eval (.tmp 36) = .pointer (some ⟨P5, 5, none⟩) := hk b0 hb0 36 (by decide)
      refine ⟨rfl, opwp_ldS rfl e36 ((hb.cell (p := ⟨P5, 5, none⟩) h5s).trans h5t) ?_⟩
      exact ⟨Below.refl _ _, _, rfl, fun d hd b _ _ => by cases hd; rfl⟩
    | 28, hjq, _, _ =>
      simp only [List.getElem?_toArray, List.getElem?_cons_zero, List.getElem?_cons_succ, Option.some.injEq] at hjq
      subst hjq
      intro B a w hB hb hk
      obtain ⟨b0, hb0⟩ := hB
      have e37 : a.eval (.tmp 37) = .string ⟨tk.text.toArray⟩ := hk b0 hb0 37 (by decide)
      refine ⟨rfl, opwp_buS rfl e37 ?_⟩
      exact ⟨Below.refl _ _, _, rfl, fun d hd b _ _ => by cases hd; rfl⟩
    | 29, hjq, _, _ =>
      simp only [List.getElem?_toArray, List.getElem?_cons_zero, List.getElem?_cons_succ, Option.some.injEq] at hjq
      subst hjq
      intro B a w hB hb hk
      obtain ⟨b0, hb0⟩ := hB
      have e35 : a.eval (.tmp 35) = .func (.func 51) #[] #[.pointer (some ⟨A, 0, none⟩)] := hk b0 hb0 35 (by decide)
      have e38 : a.eval (.tmp 38) = .agg #[.int .i64 6, .int .i64 0, .int .u64 0, .string ⟨tk.text.toArray⟩, .slice none 0 0, .slice none 0 0] := hk b0 hb0 38 (by decide)
      refine ⟨rfl, opwp_call (fun v w' => Below w.heap.size w w' ∧ ∀ b, B b → (b < w.heap.size ∨ w'.heap.size ≤ b) → ∃ g, v = .func (.func 52) #[] #[.pointer (some ⟨A, 0, none⟩), .pointer (some ⟨g, 0, none⟩)] ∧ g ≠ b ∧ w'.heap[g]? = some (.cells (rowN (begN tk 12)) 27 (0, 0))) (exec_callV #[.pointer (some ⟨A, 0, none⟩)] [a.eval (.tmp 38)] Tryz.func51 (by kernel_rfl) rfl rfl e35 rfl) ?_ ?_⟩
      · rw [e38]
        refine (plain_any2 A (6) (0) (0) ⟨tk.text.toArray⟩ none 0 0 none 0 0 w).mono ?_
        rintro o w' ⟨rfl, rfl⟩
        exact ⟨_, rfl, (Below.refl _ w).alloc (Nat.le_refl _) _, fun b _ hbb => ⟨w.heap.size, rfl, by rw [World.size_alloc] at hbb; omega, heap_alloc_new _ _⟩⟩
      · rintro v w' ⟨h, hv⟩
        exact ⟨h, _, rfl, fun d hd b hbB hbb => by cases hd; exact hv b hbB hbb⟩
    | 30, hjq, _, h => exact absurd (by decide) h
    | 31, hjq, _, _ =>
      simp only [List.getElem?_toArray, List.getElem?_cons_zero, List.getElem?_cons_succ, Option.some.injEq] at hjq
      subst hjq
      intro B a w hB hb hk
      obtain ⟨b0, hb0⟩ := hB
      have e2 : a.eval (.tmp 2) = .pointer (some ⟨A, 0, none⟩) := hk b0 hb0 2 (by decide)
      have e3 : a.eval (.tmp 3) = .pointer (some ⟨A1, 0, none⟩) := hk b0 hb0 3 (by decide)
      refine ⟨rfl, opwp_mf2 rfl e2 e3 ?_⟩
      exact ⟨Below.refl _ _, _, rfl, fun d hd b _ _ => by cases hd; rfl⟩
    | 32, hjq, _, h => exact absurd (by decide) h
    | 33, hjq, _, _ =>
      simp only [List.getElem?_toArray, List.getElem?_cons_zero, List.getElem?_cons_succ, Option.some.injEq] at hjq
      subst hjq
      intro B a w hB hb hk
      obtain ⟨b0, hb0⟩ := hB
      have e2 : a.eval (.tmp 2) = .pointer (some ⟨A, 0, none⟩) := hk b0 hb0 2 (by decide)
      have e3 : a.eval (.tmp 3) = .pointer (some ⟨A1, 0, none⟩) := hk b0 hb0 3 (by decide)
      refine ⟨rfl, opwp_mf2 rfl e2 e3 ?_⟩
      exact ⟨Below.refl _ _, _, rfl, fun d hd b _ _ => by cases hd; rfl⟩
    | 34, hjq, _, h => exact absurd (by decide) h
    | 35, hjq, _, _ =>
      simp only [List.getElem?_toArray, List.getElem?_cons_zero, List.getElem?_cons_succ, Option.some.injEq] at hjq
      subst hjq
      intro B a w hB hb hk
      obtain ⟨b0, hb0⟩ := hB
      have e0 : a.eval (.tmp 15) = .map (some b0) := hk b0 hb0 15 (by decide)
      refine ⟨rfl, opwp_move rfl rfl ?_⟩
      refine ⟨Below.refl _ _, _, rfl, fun d hd b hbB _ => ?_⟩
      cases hd
      exact hk b hbB 15 (by decide)
    | 36, hjq, _, _ =>
      simp only [List.getElem?_toArray, List.getElem?_cons_zero, List.getElem?_cons_succ, Option.some.injEq] at hjq
      subst hjq
      intro B a w hB hb hk
      obtain ⟨b0, hb0⟩ := hB
      have e0 : a.eval (.tmp 42) = .map (some b0) := hk b0 hb0 42 (by decide)
      refine ⟨rfl, opwp_assign rfl rfl ?_⟩
      refine ⟨Below.refl _ _, _, rfl, fun d hd b hbB _ => ?_⟩
      cases hd
      exact hk b hbB 42 (by decide)
    | kq + 37, hjq, _, _ => cases hjq
  intro M f w3 hb hp1 hp2 hp hblk
  have e7 : f 7 = .map (some M) := hp 7 (by decide)
  simp only [puts, List.foldl, Act.put, List.setIfInBounds_toArray, List.set_cons_zero, List.set_cons_succ]
  simp only [e7]
  generalize f 15 = v15
  generalize f 16 = v16
  generalize f 17 = v17
  generalize f 18 = v18
  generalize f 19 = v19
  generalize f 20 = v20
  generalize f 21 = v21
  generalize f 22 = v22
  generalize f 23 = v23
  generalize f 24 = v24
  generalize f 25 = v25
  generalize f 26 = v26
  generalize f 27 = v27
  generalize f 28 = v28
  generalize f 29 = v29
  generalize f 30 = v30
  generalize f 31 = v31
  generalize f 32 = v32
  generalize f 33 = v33
  generalize f 34 = v34
  generalize f 35 = v35
  generalize f 36 = v36
  generalize f 37 = v37
  generalize f 38 = v38
  generalize f 39 = v39
  generalize f 40 = v40
  generalize f 41 = v41
  generalize f 42 = v42
  obtain ⟨F, hMF, hF1, hF2⟩ := hblk
  have hb3 : Below w.heap.size w w3 := by rw [← HA.out.2.2.2]; exact HBN.out.trans (hb.mono (by omega))
  have hT3 : Touch [R] w w3 := Touch.quiet hb3
  have HT3 := Lib.hid hT3
  have HP3 := Lib.hid (HP.out.below hb3)
  have h0 := (hb.block A (by omega)).trans H0.out
  have h1 := (hb.block A1 (by have := HA.out; omega)).trans H1.out
  have h2 := (hb.block X (by have := HA.out; omega)).trans H2.out
  have h3 := (hb.block P5 (by have := HA.out; omega)).trans H3.out
  have hz3 : A + 4 ≤ w3.heap.size := by have := hb.size; omega
  have q0 : w3.cell? ⟨A, 0, none⟩ = some (.pointer (some ⟨R, 0, none⟩)) := cell_of_row _ _ _ _ _ _ h0
  have q1 : w3.cell? ⟨A1, 0, none⟩ = some (.int .i64 dp) := cell_of_row _ _ _ _ _ _ h1
  have qk : w3.cell? ⟨P5, 0, none⟩ = some (.int .i64 tk.kind) := cell_of_row _ _ _ _ _ _ h3
  obtain ⟨-, -, -, -, -, -, -, q7, -⟩ := HP3.out.cells
  obtain ⟨kl, hkl⟩ := intKeyL tk.kind (by omega) (by omega)
  have hlk := hMF.look true intKeyP (t := 102) (el := 100) Tryz.underlying102 (z := .nilFunc) (by kernel_rfl) hkl
  rw [if_pos rfl] at hlk
  have HGL3 : Glb w3 := (HGL.out).tch (hT3.tch (Nat.le_refl _)) (hGR.mono (by have := HA.out; omega)) hGR
  have HY := Lib.hid (need_any s tk many R)
  have HRES := HRES.out
  clear HBN H0 H1 H2 H3 hb3 hb hp hp1 hp2 e7 h5s h5n h5u h5t hmf hT3 h3
  by_cases hbg : bgB tk.kind = true
  · rw [if_neg (by rw [hbg]; decide)] at HRES
    obtain ⟨v, hv⟩ : ∃ v, F (.int .i64 tk.kind) = some v := by
      have hk : ∃ i ∈ [4, 8, 12, 18, 24, 30, 32, 34], keyI i = tk.kind := by
        have h12 : tk.kind = 1 ∨ tk.kind = 3 ∨ tk.kind = 7 ∨ tk.kind = 8 ∨ tk.kind = 9 ∨ tk.kind = 10 ∨ tk.kind = 11 ∨ tk.kind = 12 := by
          unfold bgB at hbg
          simp at hbg
          omega
        rcases h12 with h | h | h | h | h | h | h | h <;> rw [h]
        · exact ⟨34, by decide, by decide⟩
        · exact ⟨32, by decide, by decide⟩
        · exact ⟨4, by decide, by decide⟩
        · exact ⟨8, by decide, by decide⟩
        · exact ⟨12, by decide, by decide⟩
        · exact ⟨18, by decide, by decide⟩
        · exact ⟨24, by decide, by decide⟩
        · exact ⟨30, by decide, by decide⟩
      obtain ⟨i, hi, he⟩ := hk
      obtain ⟨v, hv⟩ := hF2 i hi rfl
      rw [he] at hv
      exact ⟨v, hv⟩
    rw [hv] at hlk
    simp only [Option.getD_some, Option.isSome_some] at hlk
    have hBV := hF1 _ _ hv
    have HBV := Lib.hid hBV
    have hMs := hMF.lt
    clear hF1 hF2 hv hBV hMF
    go_wp2_with fail
    refine (HY.out true 100 w3 HP3.out).mono ?_
    rintro o w' ⟨rfl, rfl⟩
    clear hlk qk
    go_upto_region 6 with fail
    by_cases hmm : 4096 ≤ many
    · rw [if_pos hmm] at HRES
      have hres := HRES
      refine wp_region_stage (n := 73) (fun t => match t with | 2 => some (.pointer (some ⟨A, 0, none⟩)) | 53 => some (.pointer (some ⟨R, 0, none⟩)) | 54 => some (.pointer (some ⟨R, 0, none⟩)) | 55 => some (.pointer (some ⟨R, 0, none⟩)) | 56 => some (.pointer (some ⟨R, 7, none⟩)) | 57 => some (.int .i64 many) | 58 => some (.bool (decide (many < 4096))) | _ => none) [6] (fun D _ W => Below w3.heap.size w3 W ∧ D 6 = false) (by kernel_rfl) (by kernel_rfl) rfl (fun D D' _ _ W h _ hs => ⟨hs.1, by rw [← h 6 (by decide)]; exact hs.2⟩) ?_ ⟨(Below.refl _ _).drew, rfl⟩ ?_ ?_ ?_ ?_
      · intro t V hl ht
        split at hl
        · cases hl; rfl
        · exact absurd rfl (ht 0 _ rfl)
        · exact absurd rfl (ht 1 _ rfl)
        · exact absurd rfl (ht 2 _ rfl)
        · exact absurd rfl (ht 3 _ rfl)
        · exact absurd rfl (ht 4 _ rfl)
        · exact absurd rfl (ht 5 _ rfl)
        · cases hl
      · intro jq oq hjq hns
        match jq, hjq, hns with
        | 0, hjq, _ =>
          simp only [List.getElem?_toArray, List.getElem?_cons_zero, List.getElem?_cons_succ, Option.some.injEq] at hjq
          subst hjq
          exact ⟨53, _, rfl, rfl, fun D a W hS hall hDi hcl hk => ⟨rfl, opwp_ldP rfl (hk 2 (by decide) _ rfl) ((hS.1.cell (p := ⟨A, 0, none⟩) (lt_cell q0)).trans q0) ⟨rfl, rfl⟩⟩⟩
        | 1, hjq, _ =>
          simp only [List.getElem?_toArray, List.getElem?_cons_zero, List.getElem?_cons_succ, Option.some.injEq] at hjq
          subst hjq
          exact ⟨54, _, rfl, rfl, fun D a W hS hall hDi hcl hk => ⟨rfl, opwp_ldP rfl (hk 2 (by decide) _ rfl) ((hS.1.cell (p := ⟨A, 0, none⟩) (lt_cell q0)).trans q0) ⟨rfl, rfl⟩⟩⟩
        | 2, hjq, _ =>
          simp only [List.getElem?_toArray, List.getElem?_cons_zero, List.getElem?_cons_succ, Option.some.injEq] at hjq
          subst hjq
          exact ⟨55, _, rfl, rfl, fun D a W hS hall hDi hcl hk => ⟨rfl, opwp_nc rfl (hk 54 (by decide) _ rfl) ⟨rfl, rfl⟩⟩⟩
        | 3, hjq, _ =>
          simp only [List.getElem?_toArray, List.getElem?_cons_zero, List.getElem?_cons_succ, Option.some.injEq] at hjq
          subst hjq
          exact ⟨56, _, rfl, rfl, fun D a W hS hall hDi hcl hk => ⟨rfl, opwp_faR2 rfl (hk 55 (by decide) _ rfl) ⟨rfl, rfl⟩⟩⟩
        | 4, hjq, _ =>
          simp only [List.getElem?_toArray, List.getElem?_cons_zero, List.getElem?_cons_succ, Option.some.injEq] at hjq
          subst hjq
          exact ⟨57, _, rfl, rfl, fun D a W hS hall hDi hcl hk => ⟨rfl, opwp_ldI rfl (hk 56 (by decide) _ rfl) ((hS.1.cell (p := ⟨R, 7, none⟩) (lt_cell q7)).trans q7) ⟨rfl, rfl⟩⟩⟩
        | 5, hjq, _ =>
          simp only [List.getElem?_toArray, List.getElem?_cons_zero, List.getElem?_cons_succ, Option.some.injEq] at hjq
          subst hjq
          exact ⟨58, _, rfl, rfl, fun D a W hS hall hDi hcl hk => ⟨rfl, opwp_ltI rfl (hk 57 (by decide) _ rfl) ⟨rfl, rfl⟩⟩⟩
        | 6, _, h => exact absurd (by decide) h
        | kq + 7, hjq, _ => cases hjq
      · intro jq oq hjq hsp d hd
        simp only [List.mem_cons, List.not_mem_nil, or_false] at hsp
        subst hsp
        simp only [List.getElem?_toArray, List.getElem?_cons_zero, List.getElem?_cons_succ, Option.some.injEq] at hjq
        subst hjq
        cases hd
        rfl
      · intro jq oq hjq hsp D a W had hS hall hDi hcl hk
        simp only [List.mem_cons, List.not_mem_nil, or_false] at hsp
        subst hsp
        simp only [List.getElem?_toArray, List.getElem?_cons_zero, List.getElem?_cons_succ, Option.some.injEq] at hjq
        subst hjq
        have e53 : a.eval (.tmp 53) = .pointer (some ⟨R, 0, none⟩) := hk 53 (by decide) _ rfl
        have e58 : a.eval (.tmp 58) = .bool false := (hk 58 (by decide) _ rfl).trans (by rw [decide_eq_false (by omega)])
        refine ⟨rfl, ?_⟩
        unfold Oper.wp
        rw [exec_call [a.eval (.tmp 53), a.eval (.tmp 58), .int .i64 5] Tryz.func28 (by kernel_rfl) rfl rfl rfl, Oper.upon_enter, e53, e58]
        refine (need_no s tk many R 5 W (HP3.out.below hS.1)).mono ?_
        rintro o w' ⟨rfl, rfl⟩
        have hfin : ValPost w R s res (.panicked (panV (tk.from_, 5))) W := by
          rw [← hres]
          exact ⟨HT3.out.trans (Touch.quiet hS.1), rfl⟩
        exact ⟨had, hfin⟩
      · intro D a W had hn' hDD hl h0 hS
        have := hDD 6 (by decide)
        rw [hS.2] at this
        cases this
    · rw [if_neg hmm] at HRES
      have hml : decide (many < 4096) = true := decide_eq_true (by omega)
      have hml2 : many < 4096 := by omega
      have HN2 := Lib.hid (fun W => (need_ok R 5 W).mono fun _ _ h => And.intro h.1 h.2.symm)
      go_quiet ((go_at_call 28; exact Calls.quiet_of_same (HN2.out _)))
      go_upto_region 7 with fail
      refine wp_named (fun wq => Below w3.heap.size w3 wq) (below_drewN (Below.refl _ _) _) ?_
      rintro w4 hb4
      have r0 := (hb4.cell (p := ⟨A, 0, none⟩) (lt_cell q0)).trans q0
      have r1 := (hb4.cell (p := ⟨A1, 0, none⟩) (lt_cell q1)).trans q1
      have HP4 := Lib.hid (HP3.out.below hb4)
      have HB4 := Lib.hid hb4
      clear q0 q1 q7 HN2 hml
      by_cases hdd : 64 ≤ dp
      · rw [if_pos hdd] at HRES
        have hdl : decide (dp < 64) = false := decide_eq_false (by omega)
        have HRES := Lib.hid HRES
        clear hb4
        go_wp2_with fail
        refine (HY.out false 61 w4 HP4.out).mono ?_
        rintro o w' ⟨rfl, rfl⟩
        have hfin : ValPost w R s res (.panicked (panV (tk.from_, 61))) w4 := by
          rw [← HRES.out]
          exact ⟨HT3.out.trans (Touch.quiet HB4.out), rfl⟩
        exact ⟨rfl, hfin⟩
      · rw [if_neg hdd] at HRES
        have hdl : decide (dp < 64) = true := decide_eq_true (by omega)
        have HRES := Lib.hid HRES
        have hml3 : IntKind.i64.wrap (many + 1) = many + 1 := IntWalk.i64_in _ (by omega)
        obtain ⟨-, -, -, -, -, -, -, s7, sf⟩ := HP4.out.cells
        have s7f := sf 7
        clear hb4 sf
        go_wp2_with fail
        refine (HY.out true 61 w4 HP4.out).mono ?_
        rintro o w' ⟨rfl, rfl⟩
        clear hdl
        go_upto_region 9 with fail
        have hP5 : PRow (w4.setCell ⟨R, 7, none⟩ (.int .i64 (many + 1))) R s tk (many + 1) := ⟨heap_setCell_same w4 R 7 _ _ (.int .i64 (many + 1)) HP4.out.1, HP4.out.2⟩
        refine wp_named (fun wq => PRow wq R s tk (many + 1) ∧ (∀ i, i ≠ R → wq.heap[i]? = w4.heap[i]?) ∧ Touch [R] w4 wq) ⟨hP5, fun i hi => heap_setCell_other _ _ _ _ hi, Touch.setCell _ _ _ _⟩ ?_
        clear hP5 r0 r1 s7 s7f
        rintro w5 ⟨hP5, hoth, ht5⟩
        have hA5 := (hoth A (by omega)).trans ((HB4.out.block A (by omega)).trans h0)
        have hA15 := (hoth A1 (by have := HA.out; omega)).trans ((HB4.out.block A1 (by have := HA.out; omega)).trans h1)
        have hX5 := (hoth X (by have := HA.out; omega)).trans ((HB4.out.block X (by have := HA.out; omega)).trans h2)
        have HT5 := Lib.hid ((HT3.out.trans (Touch.quiet HB4.out)).trans ht5)
        have hG5 : Glb w5 := HGL.out.tch (HT5.out.tch (Nat.le_refl _)) (hGR.mono (by have := HA.out; omega)) hGR
        have hBV5 : BegV A A1 tk M w5 tk.kind v := by
          rcases HBV.out with h | h | ⟨h1, h2, gg, h3, h4, h5⟩
          · exact .inl h
          · exact .inr (.inl h)
          · have hgs := (Array.getElem?_eq_some_iff.1 h5).1
            by_cases hgR : gg = R
            · exfalso
              subst hgR
              have hp := HP3.out.1
              rw [h5] at hp
              injection hp with hp
              injection hp with _ hp _
              exact absurd hp (by decide)
            · exact .inr (.inr ⟨h1, h2, gg, h3, h4, (hoth gg hgR).trans ((HB4.out.block gg hgs).trans h5)⟩)
        have hA5s : A + 4 ≤ w5.heap.size := by have := ht5.size; have := HB4.out.size; omega
        have HX5 := Lib.hid hX5
        clear hoth ht5 HB4 HP4 HP3 HT3 h0 h1 h2 hX5 HBV HY
        rcases hBV5 with ⟨hk, rfl⟩ | ⟨hk, rfl⟩ | ⟨h1, h2, gg, rfl, hgM, hgr⟩
        case' inl =>
          have HC : Hid (Calls Tryz.prog 53 #[.pointer (some ⟨A, 0, none⟩), .pointer (some ⟨A1, 0, none⟩)] w5 (ValPost w5 R s res)) := Lib.hid (by
            rw [← HRES.out]
            unfold vbegR
            rw [if_pos hk]
            exact beg2_any s hl R A A1 dp hd0 (by omega) hGR g (fun g' hg' => HVV.out g' (by omega)) w5 tk (many + 1) hP5 hG5 hA5 hA15 (by omega) (by omega) (by omega))
        case' inr.inl =>
          have HC : Hid (Calls Tryz.prog 55 #[.pointer (some ⟨A, 0, none⟩), .pointer (some ⟨A1, 0, none⟩)] w5 (ValPost w5 R s res)) := Lib.hid (by
            rw [← HRES.out]
            unfold vbegR
            rw [if_neg (by omega), if_pos hk]
            exact beg3_any s hl R A A1 dp hd0 (by omega) hGR g (fun g' hg' => HVV.out g' (by omega)) w5 tk (many + 1) hP5 hG5 hA5 hA15 (by omega) (by omega) (by omega))
        case' inr.inr =>
          have HC : Hid (Calls Tryz.prog 52 #[.pointer (some ⟨A, 0, none⟩), .pointer (some ⟨gg, 0, none⟩)] w5 (ValPost w5 R s res)) := Lib.hid (by
            rw [← HRES.out]
            unfold vbegR
            rw [if_neg (by omega), if_neg (by omega), leaf_beg tk ⟨h1, h2⟩]
            refine beg1_any s hl R A gg hGR (begN tk tk.kind) w5 tk (many + 1) hP5 hG5 hA5 hgr ?_
            rintro rfl
            have hp := hP5.1
            rw [hgr] at hp
            injection hp with hp
            injection hp with _ hp _
            exact absurd hp (by decide))
        all_goals
          clear HRES HVV hkb hP5 hG5 hA5 hA15 hm0 hm hd0 hd1 hf hml2 hml3 hdd
          go_wp2_with fail
          refine HC.out.mono ?_
          rintro o w6 ⟨ht, hr⟩
          cases res with
          | error x =>
            obtain rfl := hr
            exact ⟨rfl, HT5.out.trans ht, rfl⟩
          | ok p =>
            obtain ⟨T, t1, m⟩ := p
            obtain ⟨hp1, v, rfl, x0, x1, x2, x3, x4, x5, bs, rfl, hN, hnd, hge⟩ := hr
            obtain ⟨kd1, nn1, uu1, s1, B1, m1, d1, B2, m2, d2, rfl, rfl, rfl, rfl, rfl, rfl⟩ := hN.form2
            have hx : w6.heap[X]? = some (.cells zC.toArray 27 (0, 0)) := (ht.block X (by have := HA.out; omega) (by have := HA.out; simp; omega)).trans HX5.out
            obtain ⟨y0, y1, y2, y3, y4, y5⟩ := cells6 hx
            have f0 : w6.frozen? ⟨X, 0, none⟩ = false := frozen_of_row _ _ _ _ _ hx
            have f1 : w6.frozen? ⟨X, 1, none⟩ = false := frozen_of_row _ _ _ _ _ hx
            have f2 : w6.frozen? ⟨X, 2, none⟩ = false := frozen_of_row _ _ _ _ _ hx
            have f3 : w6.frozen? ⟨X, 3, none⟩ = false := frozen_of_row _ _ _ _ _ hx
            have f4 : w6.frozen? ⟨X, 4, none⟩ = false := frozen_of_row _ _ _ _ _ hx
            have f5 : w6.frozen? ⟨X, 5, none⟩ = false := frozen_of_row _ _ _ _ _ hx
            have HT6 := Lib.hid (HT5.out.trans ht)
            have HP6 := Lib.hid hp1
            have HNN := Lib.hid hN
            have HGE := Lib.hid (show ∀ i ∈ bs, A + 4 ≤ i from fun i hi => by have := hge i hi; omega)
            clear ht hp1 hN hge hx HX5 HT5 HC
            go_wp2_with fail
            have hoth : ∀ i, i ≠ X → ((((((w6.setCell ⟨X, 0, none⟩ (.int .i64 kd1)).setCell ⟨X, 1, none⟩ (.int .i64 nn1)).setCell ⟨X, 2, none⟩ (.int .u64 uu1)).setCell ⟨X, 3, none⟩ (.string s1)).setCell ⟨X, 4, none⟩ (.slice B1 m1 d1)).setCell ⟨X, 5, none⟩ (.slice B2 m2 d2)).heap[i]? = w6.heap[i]? := by
              intro i hne
              rw [heap_setCell_other _ _ _ _ hne, heap_setCell_other _ _ _ _ hne, heap_setCell_other _ _ _ _ hne, heap_setCell_other _ _ _ _ hne, heap_setCell_other _ _ _ _ hne, heap_setCell_other _ _ _ _ hne]
            (refine bodyPost_ret (v := .agg #[.int .i64 kd1, .int .i64 nn1, .int .u64 uu1, .string s1, .slice B1 m1 d1, .slice B2 m2 d2]) (by simp [results, Tryz.results27, go_sem, *]) rfl ?_)
            exact ⟨six_over HT6.out (Z := X) (by have := HA.out; omega) _ _ _ _ _ _, HP6.out.same (hoth R (by have := HA.out; omega)), _, rfl, _, _, _, _, _, _, bs, rfl, NRep.same _ _ _ HNN.out fun i hi => hoth i (by have := HGE.out i hi; have := HA.out; omega), hnd, fun i hi => by have := HGE.out i hi; have := HA.out; omega⟩
  · have hbf : bgB tk.kind = false := by simpa using hbg
    rw [if_pos hbf] at HRES
    have HRES := Lib.hid HRES
    have hn : F (.int .i64 tk.kind) = none := by
      cases hv : F (.int .i64 tk.kind) with
      | none => rfl
      | some v =>
        exfalso
        unfold bgB at hbg
        rcases hF1 _ _ hv with ⟨hk, -⟩ | ⟨hk, -⟩ | ⟨h1, h2, -⟩
        · exact hbg (by simp [hk])
        · exact hbg (by simp [hk])
        · exact hbg (by simp [h1, h2])
    rw [hn] at hlk
    simp only [Option.getD_none, Option.isSome_none] at hlk
    clear hF1 hF2 hn hMF hbg hbf
    go_wp2_with fail
    refine (HY.out false 100 w3 HP3.out).mono ?_
    rintro o w' ⟨rfl, rfl⟩
    have hfin : ValPost w R s res (.panicked (panV (tk.from_, 100))) w3 := by
      rw [← HRES.out]
      exact ⟨HT3.out, rfl⟩
    exact ⟨rfl, hfin⟩
/-- parse.reader's value. -/
theorem value_any (s : List UInt8) (hl : s.length ≤ 1073741824) : ∀ g, ValC s g := fun g => by
  induction g using Nat.strongRecOn with
  | _ g ih => exact value_step s hl g fun g' hg => ih g' hg
end Go.Proofs.YtccmhhmdenfecaaGreatDoor
