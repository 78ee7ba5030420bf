/- The walk of parse.Parse. -/
import Derived.Test.YtccmhhmdenfecaaGreatDoorJi
import Derived.Defers
import Derived.Recover
namespace Go.Proofs.YtccmhhmdenfecaaGreatDoor
set_option linter.unusedVariables false
set_option linter.unusedSimpArgs false
open Go.RowKit Go.Shelf
/-- The results' variables: a node, an offset, an error. -/
structure ResW (Z AT ER : Nat) (z : Array Value) (a e : Int) (w : World) : Prop where
  z : w.heap[Z]? = some (.cells z 27 (0, 0))
  a : w.heap[AT]? = some (.cells #[.int .i64 a] 3 (0, 0))
  e : w.heap[ER]? = some (.cells #[.int .i64 e] 28 (0, 0))
theorem wpS_recover1 {P : Program} {id : Nat} {o : Oper} {Q : Exit → Act → List Frame → World → Prop} {a : Act} {cs cs' : List Frame} {w : World} {v : Value} (hg : o.guard = none) (hrun : (execOp a.eval o).run P w = .ok .recover w) (hr : recoverD cs = some (v, cs')) (h : Q .normal (a.put o.dst v) cs' w) :
    (Code.region id #[o] false).wpS P Q a cs w := by
  apply wpS_region
  have e : List.range (#[o] : Array Oper).size = [0] := rfl
  rw [e]
  have hw : Region.wanted o (yielded #[o] a.tmps) = true := by simp [Region.wanted, hg]
  simp only [wpOpsS, List.getElem?_toArray, List.getElem?_cons_zero, hw, if_true, hrun, hr]
  exact h
theorem wpS_recover0 {P : Program} {id : Nat} {o : Oper} {Q : Exit → Act → List Frame → World → Prop} {a : Act} {cs : List Frame} {w : World} (hg : o.guard = none) (hrun : (execOp a.eval o).run P w = .ok .recover w) (hr : recoverD cs = none) (h : Q .normal (a.put o.dst .nilIface) cs w) :
    (Code.region id #[o] false).wpS P Q a cs w := by
  apply wpS_region
  have e : List.range (#[o] : Array Oper).size = [0] := rfl
  rw [e]
  have hw : Region.wanted o (yielded #[o] a.tmps) = true := by simp [Region.wanted, hg]
  simp only [wpOpsS, List.getElem?_toArray, List.getElem?_cons_zero, hw, if_true, hrun, hr]
  exact h
set_option maxRecDepth 100000 in
set_option maxHeartbeats 4000000 in
theorem catch_idle (Z AT ER : Nat) (w : World) :
    CallsD Tryz.prog 25 #[.pointer (some ⟨Z, 0, none⟩), .pointer (some ⟨AT, 0, none⟩), .pointer (some ⟨ER, 0, none⟩)] .returning w fun e u' w' => e = .returned (.tuple #[]) ∧ u' = .returning ∧ w' = w := by
  have hnil : ∀ w : World, (binOp .eql 20 .nilIface .nilIface).run Tryz.prog w = .ok (.bool true) w := fun _ => by kernel_rfl
  refine callsD_of_wpS Tryz.func25 rfl fun c₀ cs hu => ?_
  apply wpS_seq
  refine wpS_recover0 rfl rfl (by simp [recoverD, hu]) ?_
  simp only [Exit.thenS]
  refine wpS_of_wp ?_
  generalize hQ : (fun e a' w' => bodyPostS Tryz.prog Tryz.f25 c₀ cs (fun e u' w' => e = Ending.returned (.tuple #[]) ∧ u' = FrameMode.returning ∧ w' = w) e a' (c₀ :: cs) w') = Q0
  have HQ := Lib.hid hQ
  clear hQ
  simp only [Tryz.ntmps25, Act.put, List.size_toArray, List.length_cons, List.length_nil, Nat.reduceAdd, Nat.reduceSub, Array.replicate_succ, Array.replicate_zero, List.push_toArray, List.append_toArray, List.nil_append, List.cons_append, List.setIfInBounds_toArray, List.set_cons_zero, List.set_cons_succ]
  go_wp2
  rw [← HQ.out]
  refine ⟨rfl, .returning, by rw [← hu], .tuple #[], by simp [results], rfl, rfl, rfl⟩
section
set_option maxHeartbeats 2000000
theorem opwp_faW0 {o : Oper} {a : Act} {w : World} {K : Act → World → Prop} {Q : Exit → Act → World → Prop} {x : Tmp} {b off : Nat} (hop : o.op = .fieldAddr 57 (.tmp x) 0) (hx : a.eval (.tmp x) = .pointer (some ⟨b, off, none⟩)) (hK : K (a.put o.dst (.pointer (some ⟨b, off, none⟩))) w) : o.wp Tryz.prog a w K Q := by
  refine opwp_val (w' := w) (.pointer (some ⟨b, off, none⟩)) ?_ hK
  simp only [execOp, hop, hx]
  go_simp
theorem opwp_faW1 {o : Oper} {a : Act} {w : World} {K : Act → World → Prop} {Q : Exit → Act → World → Prop} {x : Tmp} {b off : Nat} (hop : o.op = .fieldAddr 57 (.tmp x) 1) (hx : a.eval (.tmp x) = .pointer (some ⟨b, off, none⟩)) (hK : K (a.put o.dst (.pointer (some ⟨b, off + 1, none⟩))) w) : o.wp Tryz.prog a w K Q := by
  refine opwp_val (w' := w) (.pointer (some ⟨b, off + 1, none⟩)) ?_ hK
  simp only [execOp, hop, hx]
  go_simp
theorem opwp_ldE {o : Oper} {a : Act} {w : World} {K : Act → World → Prop} {Q : Exit → Act → World → Prop} {x : Tmp} {p : Addr} {v : Value} (hop : o.op = .load 28 (.tmp x)) (hx : a.eval (.tmp x) = .pointer (some p)) (h : w.cell? p = some v) (hK : K (a.put o.dst v) w) : o.wp Tryz.prog a w K Q := by
  refine opwp_val (w' := w) v ?_ hK
  simp only [execOp, hop, hx]
  go_simp
theorem opwp_bu0 {o : Oper} {a : Act} {w : World} {K : Act → World → Prop} {Q : Exit → Act → World → Prop} (hop : o.op = .build 27 #[]) (hK : K (a.put o.dst (.agg #[.int .i64 0, .int .i64 0, .int .u64 0, .string ⟨#[]⟩, .slice none 0 0, .slice none 0 0])) w) : o.wp Tryz.prog a w K Q := by
  refine opwp_val (w' := w) (.agg #[.int .i64 0, .int .i64 0, .int .u64 0, .string ⟨#[]⟩, .slice none 0 0, .slice none 0 0]) ?_ hK
  simp only [execOp, hop]
  go_simp
theorem opwp_stI {o : Oper} {a : Act} {w : World} {K : Act → World → Prop} {Q : Exit → Act → World → Prop} {x y : Tmp} {p : Addr} {u : Value} {n : Int} (hop : o.op = .store 3 (.tmp x) (.tmp y)) (hd : o.dst = none) (hx : a.eval (.tmp x) = .pointer (some p)) (hy : a.eval (.tmp y) = .int .i64 n)
    (h : w.cell? p = some u) (hf : w.frozen? p = false) (hK : K a (w.setCell p (.int .i64 n))) : o.wp Tryz.prog a w K Q := by
  have e : (execOp a.eval o).run Tryz.prog w = .ok .skip (w.setCell p (.int .i64 n)) := by
    simp only [execOp, hop, hx, hy]
    go_simp
  unfold Oper.wp
  rw [e, Oper.upon_skip, hd]
  exact hK
theorem opwp_stR {o : Oper} {a : Act} {w : World} {K : Act → World → Prop} {Q : Exit → Act → World → Prop} {x y : Tmp} {p : Addr} {u : Value} {n : Int} (hop : o.op = .store 28 (.tmp x) (.tmp y)) (hd : o.dst = none) (hx : a.eval (.tmp x) = .pointer (some p)) (hy : a.eval (.tmp y) = .int .i64 n)
    (h : w.cell? p = some u) (hf : w.frozen? p = false) (hK : K a (w.setCell p (.int .i64 n))) : o.wp Tryz.prog a w K Q := by
  have e : (execOp a.eval o).run Tryz.prog w = .ok .skip (w.setCell p (.int .i64 n)) := by
    simp only [execOp, hop, hx, hy]
    go_simp
  unfold Oper.wp
  rw [e, Oper.upon_skip, hd]
  exact hK
end
def lightC (Z AT ER P : Nat) (p q : Int) (t : Tmp) : Option Value := match t with
  | 0 => some (.pointer (some ⟨Z, 0, none⟩))
  | 1 => some (.pointer (some ⟨AT, 0, none⟩))
  | 2 => some (.pointer (some ⟨ER, 0, none⟩))
  | 4 => some (.pointer (some ⟨P, 0, none⟩))
  | 12 => some (.agg #[.int .i64 0, .int .i64 0, .int .u64 0, .string ⟨#[]⟩, .slice none 0 0, .slice none 0 0])
  | 13 => some (.pointer (some ⟨P, 0, none⟩))
  | 14 => some (.int .i64 p)
  | 15 => some (.pointer (some ⟨P, 1, none⟩))
  | 16 => some (.int .i64 q)
  | _ => none
set_option maxRecDepth 100000 in
set_option maxHeartbeats 4000000 in
theorem catch_panicking (Z AT ER : Nat) (z0 z1 z2 z3 z4 z5 : Value) (a e : Int) (x : Int × Int) (older : List PanicEntry) (w : World) (h : ResW Z AT ER #[z0, z1, z2, z3, z4, z5] a e w) (hne : Z ≠ AT ∧ Z ≠ ER ∧ AT ≠ ER) :
    CallsD Tryz.prog 25 #[.pointer (some ⟨Z, 0, none⟩), .pointer (some ⟨AT, 0, none⟩), .pointer (some ⟨ER, 0, none⟩)] (.panicking ({ v := .iface 57 (.agg #[.int .i64 x.1, .int .i64 x.2]), recovered := false } :: older)) w fun o u' w' =>
      o = .returned (.tuple #[]) ∧ u' = .panicking ({ v := .iface 57 (.agg #[.int .i64 x.1, .int .i64 x.2]), recovered := true } :: older) ∧ ResW Z AT ER zC.toArray x.1 x.2 w' ∧ Touch [Z, AT, ER] w w' := by
  refine callsD_of_wpS Tryz.func25 rfl fun c₀ cs hu => ?_
  apply wpS_seq
  refine wpS_recover1 (v := .iface 57 (.agg #[.int .i64 x.1, .int .i64 x.2])) (cs' := { c₀ with mode := .panicking ({ v := .iface 57 (.agg #[.int .i64 x.1, .int .i64 x.2]), recovered := true } :: older) } :: cs) rfl rfl (by simp [recoverD, hu]) ?_
  simp only [Exit.thenS]
  refine wpS_of_wp ?_
  obtain ⟨p, q⟩ := x
  generalize hQ : (fun (e : Exit) (a' : Act) (w' : World) => bodyPostS Tryz.prog Tryz.f25 c₀ cs (fun o u' w' => o = Ending.returned (.tuple #[]) ∧ u' = FrameMode.panicking ({ v := .iface 57 (.agg #[.int .i64 p, .int .i64 q]), recovered := true } :: older) ∧ ResW Z AT ER zC.toArray p q w' ∧ Touch [Z, AT, ER] w w') e a' ({ c₀ with mode := FrameMode.panicking ({ v := .iface 57 (.agg #[.int .i64 p, .int .i64 q]), recovered := true } :: older) } :: cs) w') = Q0
  have HQ := Lib.hid hQ
  clear hQ
  simp only [Tryz.ntmps25, Act.put, List.size_toArray, List.length_cons, List.length_nil, Nat.reduceAdd, Nat.reduceSub, Array.replicate_succ, Array.replicate_zero, List.push_toArray, List.append_toArray, List.nil_append, List.cons_append, List.setIfInBounds_toArray, List.set_cons_zero, List.set_cons_succ]
  have hne0 : ∀ w : World, (binOp .eql 20 (.iface 57 (.agg #[.int .i64 p, .int .i64 q])) .nilIface).run Tryz.prog w = .ok (.bool false) w := fun _ => by kernel_rfl
  have hta : ∀ w : World, (Instr.typeAssert (.iface 57 (.agg #[.int .i64 p, .int .i64 q])) 20 57 true).run Tryz.prog w = .ok (.tuple #[.agg #[.int .i64 p, .int .i64 q], .bool true]) w := fun _ => by kernel_rfl
  go_upto_region 7 with fail
  have hb0 : Below w.heap.size w (w.alloc (.cells #[.int .i64 p, .int .i64 q] 57)) := (Below.refl _ w).alloc (Nat.le_refl _) _
  have hzs := (Array.getElem?_eq_some_iff.1 h.z).1
  have has := (Array.getElem?_eq_some_iff.1 h.a).1
  have hes := (Array.getElem?_eq_some_iff.1 h.e).1
  refine wp_named (fun wn => Below w.heap.size w wn ∧ wn.heap[w.heap.size]? = some (.cells #[.int .i64 p, .int .i64 q] 57 (0, 0))) ⟨hb0, heap_alloc_new _ _⟩ ?_
  rintro wn ⟨hbn, hPn⟩
  have hRn : ResW Z AT ER #[z0, z1, z2, z3, z4, z5] a e wn := ⟨(hbn.block _ hzs).trans h.z, (hbn.block _ has).trans h.a, (hbn.block _ hes).trans h.e⟩
  refine wp_region_stage (n := 17) (lightC Z AT ER w.heap.size p q) [5, 6, 7] (fun D _ W => Touch [Z, AT, ER] wn W ∧ ResW Z AT ER (if D 5 = true then zC.toArray else #[z0, z1, z2, z3, z4, z5]) (if D 6 = true then p else a) (if D 7 = true then q else e) W) (by kernel_rfl) (by kernel_rfl) rfl (fun D D' _ _ W h _ hs => by rw [← h 5 (by decide), ← h 6 (by decide), ← h 7 (by decide)]; exact hs) ?_ ⟨Touch.drew _ _, ⟨hRn.z, hRn.a, hRn.e⟩⟩ ?_ ?_ ?_ ?_
  · intro t V hl ht
    unfold lightC at hl
    split at hl
    · cases hl; rfl
    · cases hl; rfl
    · cases hl; rfl
    · cases hl; rfl
    · exact absurd rfl (ht 0 _ rfl)
    · exact absurd rfl (ht 1 _ rfl)
    · exact absurd rfl (ht 2 _ rfl)
    · exact absurd rfl (ht 3 _ rfl)
    · exact absurd rfl (ht 4 _ rfl)
    · cases hl
  · intro jq oq hjq hns
    have hP : ∀ W, Touch [Z, AT, ER] wn W → W.heap[w.heap.size]? = some (.cells #[.int .i64 p, .int .i64 q] 57 (0, 0)) := fun W ht => (ht.block _ (Array.getElem?_eq_some_iff.1 hPn).1 (by simp; omega)).trans hPn
    match jq, hjq, hns with
    | 0, hjq, _ =>
      simp only [List.getElem?_toArray, List.getElem?_cons_zero, List.getElem?_cons_succ, Option.some.injEq] at hjq
      subst hjq
      exact ⟨12, _, rfl, rfl, fun D a W hS hall hDi hcl hk => ⟨rfl, opwp_bu0 rfl ⟨rfl, rfl⟩⟩⟩
    | 1, hjq, _ =>
      simp only [List.getElem?_toArray, List.getElem?_cons_zero, List.getElem?_cons_succ, Option.some.injEq] at hjq
      subst hjq
      exact ⟨13, _, rfl, rfl, fun D a W hS hall hDi hcl hk => ⟨rfl, opwp_faW0 rfl (hk 4 (by decide) _ rfl) ⟨rfl, rfl⟩⟩⟩
    | 2, hjq, _ =>
      simp only [List.getElem?_toArray, List.getElem?_cons_zero, List.getElem?_cons_succ, Option.some.injEq] at hjq
      subst hjq
      exact ⟨14, _, rfl, rfl, fun D a W hS hall hDi hcl hk => ⟨rfl, opwp_ldI rfl (hk 13 (by decide) _ rfl) (cell_of_row _ _ _ _ _ _ (hP W hS.1)) ⟨rfl, rfl⟩⟩⟩
    | 3, hjq, _ =>
      simp only [List.getElem?_toArray, List.getElem?_cons_zero, List.getElem?_cons_succ, Option.some.injEq] at hjq
      subst hjq
      exact ⟨15, _, rfl, rfl, fun D a W hS hall hDi hcl hk => ⟨rfl, opwp_faW1 rfl (hk 4 (by decide) _ rfl) ⟨rfl, rfl⟩⟩⟩
    | 4, hjq, _ =>
      simp only [List.getElem?_toArray, List.getElem?_cons_zero, List.getElem?_cons_succ, Option.some.injEq] at hjq
      subst hjq
      exact ⟨16, _, rfl, rfl, fun D a W hS hall hDi hcl hk => ⟨rfl, opwp_ldE rfl (hk 15 (by decide) _ rfl) (cell_of_row _ _ _ _ _ _ (hP W hS.1)) ⟨rfl, rfl⟩⟩⟩
    | 5, _, h | 6, _, h | 7, _, h => exact absurd (by decide) h
    | kq + 8, hjq, _ => cases hjq
  · intro jq oq hjq hsp d hd
    simp only [List.mem_cons, List.not_mem_nil, or_false] at hsp
    rcases hsp with rfl | rfl | rfl
    all_goals
      simp only [List.getElem?_toArray, List.getElem?_cons_zero, List.getElem?_cons_succ, Option.some.injEq] at hjq
      subst hjq
      cases hd
  · intro jq oq hjq hsp D a' W had hS hall hDi hcl hk
    simp only [List.mem_cons, List.not_mem_nil, or_false] at hsp
    obtain ⟨ht, hr⟩ := hS
    rcases hsp with rfl | rfl | rfl
    · simp only [List.getElem?_toArray, List.getElem?_cons_zero, List.getElem?_cons_succ, Option.some.injEq] at hjq
      subst hjq
      have e0 : a'.eval (.tmp 0) = .pointer (some ⟨Z, 0, none⟩) := hk 0 (by decide) _ rfl
      have e12 : a'.eval (.tmp 12) = .agg #[.int .i64 0, .int .i64 0, .int .u64 0, .string ⟨#[]⟩, .slice none 0 0, .slice none 0 0] := hk 12 (by decide) _ rfl
      rw [if_neg (by rw [hDi]; decide)] at hr
      obtain ⟨n0, n1, n2, n3, n4, n5⟩ := cells6 hr.z
      refine ⟨rfl, opwp_stE rfl rfl e0 e12 n0 n1 n2 n3 n4 n5 (fun i => frozen_of_row _ _ _ _ _ hr.z) ⟨undef, rfl, ?_, ?_⟩⟩
      · exact ht.trans ((touch6 (Y := Z) (w := W) _ _ _ _ _ _).mono (by simp))
      · have hoth : ∀ i, i ≠ Z → ((((((W.setCell ⟨Z, 0, none⟩ (.int .i64 0)).setCell ⟨Z, 1, none⟩ (.int .i64 0)).setCell ⟨Z, 2, none⟩ (.int .u64 0)).setCell ⟨Z, 3, none⟩ (.string ⟨#[]⟩)).setCell ⟨Z, 4, none⟩ (.slice none 0 0)).setCell ⟨Z, 5, none⟩ (.slice none 0 0)).heap[i]? = W.heap[i]? := by
          intro i hne
          rw [heap_setCell_other _ _ _ _ hne, heap_setCell_other _ _ _ _ hne, heap_setCell_other _ _ _ _ hne, heap_setCell_other _ _ _ _ hne, heap_setCell_other _ _ _ _ hne, heap_setCell_other _ _ _ _ hne]
        exact ⟨row6_set hr.z _ _ _ _ _ _, (hoth AT (by omega)).trans hr.a, (hoth ER (by omega)).trans hr.e⟩
    · simp only [List.getElem?_toArray, List.getElem?_cons_zero, List.getElem?_cons_succ, Option.some.injEq] at hjq
      subst hjq
      have e1 : a'.eval (.tmp 1) = .pointer (some ⟨AT, 0, none⟩) := hk 1 (by decide) _ rfl
      have e14 : a'.eval (.tmp 14) = .int .i64 p := hk 14 (by decide) _ rfl
      have hne2 : ∀ i, i ≠ AT → (W.setCell ⟨AT, 0, none⟩ (.int .i64 p)).heap[i]? = W.heap[i]? := fun i hi => heap_setCell_other _ _ _ _ hi
      refine ⟨rfl, opwp_stI rfl rfl e1 e14 (cell_of_row _ _ _ _ _ _ hr.a) (frozen_of_row _ _ _ _ _ hr.a) ⟨undef, rfl, ht.trans ((Touch.setCell W AT 0 _).mono (by simp)), (hne2 Z (by omega)).trans hr.z, heap_setCell_same W AT 0 _ _ (.int .i64 p) hr.a, (hne2 ER (by omega)).trans hr.e⟩⟩
    · simp only [List.getElem?_toArray, List.getElem?_cons_zero, List.getElem?_cons_succ, Option.some.injEq] at hjq
      subst hjq
      have e2 : a'.eval (.tmp 2) = .pointer (some ⟨ER, 0, none⟩) := hk 2 (by decide) _ rfl
      have e16 : a'.eval (.tmp 16) = .int .i64 q := hk 16 (by decide) _ rfl
      have hne2 : ∀ i, i ≠ ER → (W.setCell ⟨ER, 0, none⟩ (.int .i64 q)).heap[i]? = W.heap[i]? := fun i hi => heap_setCell_other _ _ _ _ hi
      refine ⟨rfl, opwp_stR rfl rfl e2 e16 (cell_of_row _ _ _ _ _ _ hr.e) (frozen_of_row _ _ _ _ _ hr.e) ⟨undef, rfl, ht.trans ((Touch.setCell W ER 0 _).mono (by simp)), (hne2 Z (by omega)).trans hr.z, (hne2 AT (by omega)).trans hr.a, heap_setCell_same W ER 0 _ _ (.int .i64 q) hr.e⟩⟩
  · intro D a' W had hn' hDD hl h0 hS
    obtain ⟨ht, hr⟩ := hS
    rw [if_pos (hDD 5 (by decide)), if_pos (hDD 6 (by decide)), if_pos (hDD 7 (by decide))] at hr
    show Q0 .normal a' W
    rw [← HQ.out]
    exact ⟨had, _, rfl, .tuple #[], by simp [results], rfl, rfl, hr, (Touch.quiet hbn).trans ht⟩
/-- What Parse leaves. -/
theorem parM_next {s : List UInt8} (hs : s.length ≤ 1048576) {x : Int × Int} (h : nextP s tok0 = .error x) : parM s = (zeroD, x.1, x.2) := by
  unfold parM; rw [if_neg (by omega), h]
theorem parM_val {s : List UInt8} (hs : s.length ≤ 1048576) {t : Tok} {x : Int × Int} (h : nextP s tok0 = .ok t) (hv : valP s 8200 0 t 0 = .error x) : parM s = (zeroD, x.1, x.2) := by
  unfold parM; rw [if_neg (by omega), h]; dsimp only; rw [hv]
theorem parM_end {s : List UInt8} (hs : s.length ≤ 1048576) {t t1 : Tok} {T : DT} {m : Int} (h : nextP s tok0 = .ok t) (hv : valP s 8200 0 t 0 = .ok (T, t1, m)) : parM s = if t1.kind ≠ 0 then (zeroD, t1.from_, 100) else (T, 0, 0) := by
  unfold parM; rw [if_neg (by omega), h]; dsimp only; rw [hv]
def ParPost (w : World) (s : List UInt8) (o : Ending) (w' : World) : Prop :=
  (∃ v, o = .returned (.tuple #[v, .int .i64 (parM s).2.1, .int .i64 (parM s).2.2]) ∧ Fresh w.heap.size w' (parM s).1 v) ∧ Below w.heap.size w w'
set_option maxRecDepth 100000 in
set_option maxHeartbeats 8000000 in
theorem parse_long (s : List UInt8) (w : World) (hl : s.length ≤ 1073741824) (hlong : 1048576 < s.length) : Calls Tryz.prog 11 #[strV s] w (ParPost w s) := by
  have hs : (⟨s.toArray⟩ : ByteArray).size = s.length := by simp [ByteArray.size]
  have hgt : (1048576 : Int) < (s.length : Int) := by omega
  have hm : parM s = (zeroD, 0, 5) := by unfold parM; rw [if_pos hlong]
  unfold ParPost
  rw [hm]
  unfold strV
  have hmf : ∀ (fn : Fn) (first cap : Array Value) (w : World), (Instr.makeFunc fn first cap).run Tryz.prog w = .ok (.func fn first cap) w := fun _ _ _ _ => rfl
  clear hm hlong
  go_enter_defers Tryz.func11, Tryz.ntmps11
  go_wp2
  exact ⟨.tuple #[.agg zC.toArray, .int .i64 0, .int .i64 5], by simp [results, Tryz.results11, go_sem, zC], ⟨_, rfl, leaf_fresh (0, 0, 0, [])⟩, by exact zw⟩
structure SixSt (w W : World) (R : Nat) (s : List UInt8) (t : Tok) (m : Int) (T : DT) (v0 v1 v2 v3 v4 v5 : Value) (bs : List Nat) : Prop where
  r : ResW w.heap.size (w.heap.size + 1) (w.heap.size + 1 + 1) #[v0, v1, v2, v3, v4, v5] 0 0 W
  b : Below w.heap.size w W
  p : PRow W R s t m
  n : NRep W T [v0, v1, v2, v3, v4, v5] bs
  g : ∀ i ∈ bs, w.heap.size + 1 + 1 < i
theorem six_at {w w1 w2 : World} {R : Nat} {s : List UInt8} {t : Tok} {m : Int} {T : DT} {v0 v1 v2 v3 v4 v5 : Value} {bs : List Nat} (hr : ResW w.heap.size (w.heap.size + 1) (w.heap.size + 1 + 1) zC.toArray 0 0 w2) (hb : Below w.heap.size w w2) (hz1 : w.heap.size + 1 + 1 < w1.heap.size) (hp : PRow w2 R s t m) (hR : w.heap.size < R) (hN : NRep w2 T [v0, v1, v2, v3, v4, v5] bs) (hge : ∀ i ∈ bs, w1.heap.size ≤ i) :
    SixSt w ((((((w2.setCell ⟨w.heap.size, 0, none⟩ v0).setCell ⟨w.heap.size, 1, none⟩ v1).setCell ⟨w.heap.size, 2, none⟩ v2).setCell ⟨w.heap.size, 3, none⟩ v3).setCell ⟨w.heap.size, 4, none⟩ v4).setCell ⟨w.heap.size, 5, none⟩ v5) R s t m T v0 v1 v2 v3 v4 v5 bs := by
  have hoth : ∀ i, i ≠ w.heap.size → ((((((w2.setCell ⟨w.heap.size, 0, none⟩ v0).setCell ⟨w.heap.size, 1, none⟩ v1).setCell ⟨w.heap.size, 2, none⟩ v2).setCell ⟨w.heap.size, 3, none⟩ v3).setCell ⟨w.heap.size, 4, none⟩ v4).setCell ⟨w.heap.size, 5, none⟩ v5).heap[i]? = w2.heap[i]? := by
    intro i hne
    rw [heap_setCell_other _ _ _ _ hne, heap_setCell_other _ _ _ _ hne, heap_setCell_other _ _ _ _ hne, heap_setCell_other _ _ _ _ hne, heap_setCell_other _ _ _ _ hne, heap_setCell_other _ _ _ _ hne]
  have ht : Touch [w.heap.size] w2 ((((((w2.setCell ⟨w.heap.size, 0, none⟩ v0).setCell ⟨w.heap.size, 1, none⟩ v1).setCell ⟨w.heap.size, 2, none⟩ v2).setCell ⟨w.heap.size, 3, none⟩ v3).setCell ⟨w.heap.size, 4, none⟩ v4).setCell ⟨w.heap.size, 5, none⟩ v5) := (touch6 (Y := w.heap.size) (w := w2) _ _ _ _ _ _).mono (by simp)
  exact ⟨⟨row6_set hr.z _ _ _ _ _ _, (hoth _ (by omega)).trans hr.a, (hoth _ (by omega)).trans hr.e⟩, ⟨ht.os.trans hb.os, ht.tape.trans hb.tape, ht.output.trans hb.output, Nat.le_trans hb.size ht.size, fun i hi => (hoth i (by omega)).trans (hb.block i hi)⟩, hp.same (hoth R (by omega)), NRep.same _ _ _ hN fun i hi => hoth i (by have := hge i hi; omega), fun i hi => Nat.lt_of_lt_of_le hz1 (hge i hi)⟩
theorem SixSt.again {w W : World} {R : Nat} {s : List UInt8} {t : Tok} {m : Int} {T : DT} {v0 v1 v2 v3 v4 v5 : Value} {bs : List Nat} (h : SixSt w W R s t m T v0 v1 v2 v3 v4 v5 bs) (hR : w.heap.size + 1 + 1 < R) :
    SixSt w ((((((((W.setCell ⟨w.heap.size, 0, none⟩ v0).setCell ⟨w.heap.size, 1, none⟩ v1).setCell ⟨w.heap.size, 2, none⟩ v2).setCell ⟨w.heap.size, 3, none⟩ v3).setCell ⟨w.heap.size, 4, none⟩ v4).setCell ⟨w.heap.size, 5, none⟩ v5).setCell ⟨w.heap.size + 1, 0, none⟩ (.int .i64 0)).setCell ⟨w.heap.size + 1 + 1, 0, none⟩ (.int .i64 0)) R s t m T v0 v1 v2 v3 v4 v5 bs := by
  generalize hV : ((((((W.setCell ⟨w.heap.size, 0, none⟩ v0).setCell ⟨w.heap.size, 1, none⟩ v1).setCell ⟨w.heap.size, 2, none⟩ v2).setCell ⟨w.heap.size, 3, none⟩ v3).setCell ⟨w.heap.size, 4, none⟩ v4).setCell ⟨w.heap.size, 5, none⟩ v5) = V
  have hoth : ∀ i, i ≠ w.heap.size → V.heap[i]? = W.heap[i]? := by
    intro i hne
    rw [← hV, heap_setCell_other _ _ _ _ hne, heap_setCell_other _ _ _ _ hne, heap_setCell_other _ _ _ _ hne, heap_setCell_other _ _ _ _ hne, heap_setCell_other _ _ _ _ hne, heap_setCell_other _ _ _ _ hne]
  have hV0 : V.heap[w.heap.size]? = some (.cells #[v0, v1, v2, v3, v4, v5] 27 (0, 0)) := by rw [← hV]; exact row6_set h.r.z _ _ _ _ _ _
  have ht0 : Touch [w.heap.size] W V := by rw [← hV]; exact (touch6 (Y := w.heap.size) (w := W) _ _ _ _ _ _).mono (by simp)
  clear hV
  have ea : (V.setCell ⟨w.heap.size + 1, 0, none⟩ (.int .i64 0)).heap[w.heap.size + 1]? = some (.cells #[.int .i64 0] 3 (0, 0)) := heap_setCell_same V (w.heap.size + 1) 0 _ _ (.int .i64 0) ((hoth _ (by omega)).trans h.r.a)
  have oa : ∀ i, i ≠ w.heap.size + 1 → (V.setCell ⟨w.heap.size + 1, 0, none⟩ (.int .i64 0)).heap[i]? = V.heap[i]? := fun i hne => heap_setCell_other _ _ _ _ hne
  have ta : Touch [w.heap.size + 1] V (V.setCell ⟨w.heap.size + 1, 0, none⟩ (.int .i64 0)) := (Touch.setCell V (w.heap.size + 1) 0 _).mono (by simp)
  generalize V.setCell ⟨w.heap.size + 1, 0, none⟩ (.int .i64 0) = V1 at *
  have ee : (V1.setCell ⟨w.heap.size + 1 + 1, 0, none⟩ (.int .i64 0)).heap[w.heap.size + 1 + 1]? = some (.cells #[.int .i64 0] 28 (0, 0)) := heap_setCell_same V1 (w.heap.size + 1 + 1) 0 _ _ (.int .i64 0) ((oa _ (by omega)).trans ((hoth _ (by omega)).trans h.r.e))
  have oe : ∀ i, i ≠ w.heap.size + 1 + 1 → (V1.setCell ⟨w.heap.size + 1 + 1, 0, none⟩ (.int .i64 0)).heap[i]? = V1.heap[i]? := fun i hne => heap_setCell_other _ _ _ _ hne
  have te : Touch [w.heap.size + 1 + 1] V1 (V1.setCell ⟨w.heap.size + 1 + 1, 0, none⟩ (.int .i64 0)) := (Touch.setCell V1 (w.heap.size + 1 + 1) 0 _).mono (by simp)
  generalize V1.setCell ⟨w.heap.size + 1 + 1, 0, none⟩ (.int .i64 0) = V2 at *
  have far : ∀ i, i ≠ w.heap.size → i ≠ w.heap.size + 1 → i ≠ w.heap.size + 1 + 1 → V2.heap[i]? = W.heap[i]? := fun i h0 h1 h2 => (oe i h2).trans ((oa i h1).trans (hoth i h0))
  exact ⟨⟨(oe _ (by omega)).trans ((oa _ (by omega)).trans hV0), (oe _ (by omega)).trans ea, ee⟩, ⟨te.os.trans (ta.os.trans (ht0.os.trans h.b.os)), te.tape.trans (ta.tape.trans (ht0.tape.trans h.b.tape)), te.output.trans (ta.output.trans (ht0.output.trans h.b.output)), Nat.le_trans h.b.size (Nat.le_trans ht0.size (Nat.le_trans ta.size te.size)), fun i hi => (far i (by omega) (by omega) (by omega)).trans (h.b.block i hi)⟩, h.p.same (far R (by omega) (by omega) (by omega)), NRep.same _ _ _ h.n fun i hi => by have := h.g i hi; exact far i (by omega) (by omega) (by omega), h.g⟩
set_option maxRecDepth 100000 in
set_option maxHeartbeats 16000000 in
theorem parse_short (s : List UInt8) (w : World) (hshort : s.length ≤ 1048576) (hGl : Glb w) (hGB : Gb w.heap.size) : Calls Tryz.prog 11 #[strV s] w (ParPost w s) := by
  have hs : (⟨s.toArray⟩ : ByteArray).size = s.length := by simp [ByteArray.size]
  have hgt : ¬ (1048576 : Int) < (s.length : Int) := by omega
  have HM := Lib.hid hshort
  have hmf : ∀ (fn : Fn) (first cap : Array Value) (w : World), (Instr.makeFunc fn first cap).run Tryz.prog w = .ok (.func fn first cap) w := fun _ _ _ _ => rfl
  have HV := Lib.hid (value_any s (by omega) 8200)
  have HG := Lib.hid (And.intro hGl hGB)
  have hsl : s.length ≤ 1073741824 := by omega
  clear hGl hGB
  unfold strV
  go_enter_defers Tryz.func11, Tryz.ntmps11
  go_upto_region 5 with fail
  have h4 := alloc4 w (.cells zC.toArray 27) (.cells #[.int .i64 0] 3) (.cells #[.int .i64 0] 28) (.cells #[strV s, .int .i64 0, .int .i64 0, .int .i64 0, .int .i64 0, .int .u64 0, strV [], .int .i64 0] 60)
  refine wp_named (fun wn => Below w.heap.size w wn ∧ wn.heap.size = w.heap.size + 4 ∧ ResW w.heap.size (w.heap.size + 1) (w.heap.size + 1 + 1) zC.toArray 0 0 wn ∧ PRow wn (w.heap.size + 1 + 1 + 1) s tok0 0) ⟨by exact zw, by simp, ⟨h4.1, h4.2.1, h4.2.2.1⟩, ⟨h4.2.2.2, by decide, by decide, by decide⟩⟩ ?_
  clear h4
  rintro wn ⟨hb, hz, hRes, hP⟩
  have hGn := HG.out.1.below hb HG.out.2
  have HN := Lib.hid (nextr_any s tok0 0 (w.heap.size + 1 + 1 + 1) wn hP hsl hGn (HG.out.2.mono (by omega)))
  have HB := Lib.hid hb
  have HRES := Lib.hid hRes
  clear hb hRes hP hGn hz
  go_wp2_with fail
  refine HN.out.mono ?_
  rintro o w1 ⟨ht, hn⟩
  have hRW : ResW w.heap.size (w.heap.size + 1) (w.heap.size + 1 + 1) zC.toArray 0 0 w1 := ⟨(ht.block _ (Array.getElem?_eq_some_iff.1 HRES.out.z).1 (by simp; omega)).trans HRES.out.z, (ht.block _ (Array.getElem?_eq_some_iff.1 HRES.out.a).1 (by simp)).trans HRES.out.a, (ht.block _ (Array.getElem?_eq_some_iff.1 HRES.out.e).1 (by simp)).trans HRES.out.e⟩
  have hbW : Below w.heap.size w w1 := touch_old HB.out (by omega) ht
  cases hq : nextP s tok0 with
  | error x =>
    rw [hq] at hn
    obtain rfl := hn
    have hm := parM_next HM.out hq
    refine leaves_cons (f := 25) (args := #[.pointer (some ⟨w.heap.size, 0, none⟩), .pointer (some ⟨w.heap.size + 1, 0, none⟩), .pointer (some ⟨w.heap.size + 1 + 1, 0, none⟩)]) (by simp) (by simp [go_sem]) ?_
    refine (catch_panicking w.heap.size (w.heap.size + 1) (w.heap.size + 1 + 1) _ _ _ _ _ _ _ _ x [] _ hRW ⟨by omega, by omega, by omega⟩).mono ?_
    rintro o u' w' ⟨rfl, rfl, hr, ht⟩
    obtain ⟨y0, y1, y2, y3, y4, y5⟩ := cells6 hr.z
    have ya : w'.cell? ⟨w.heap.size + 1, 0, none⟩ = some (.int .i64 x.1) := cell_of_row _ _ _ _ _ _ hr.a
    have ye : w'.cell? ⟨w.heap.size + 1 + 1, 0, none⟩ = some (.int .i64 x.2) := cell_of_row _ _ _ _ _ _ hr.e
    refine ⟨.tuple #[.agg #[.int .i64 0, .int .i64 0, .int .u64 0, .string ⟨#[]⟩, .slice none 0 0, .slice none 0 0], .int .i64 x.1, .int .i64 x.2], by simp [results, Tryz.results11, go_sem, y0, y1, y2, y3, y4, y5, ya, ye], ?_⟩
    unfold ParPost
    rw [hm]
    exact ⟨⟨_, rfl, leaf_fresh (0, 0, 0, [])⟩, ⟨ht.os.trans hbW.os, ht.tape.trans hbW.tape, ht.output.trans hbW.output, Nat.le_trans hbW.size ht.size, fun i hi => (ht.block i (Nat.lt_of_lt_of_le hi hbW.size) (by simp; omega)).trans (hbW.block i hi)⟩⟩
  | ok t =>
    rw [hq] at hn
    obtain ⟨rfl, hp1⟩ := hn
    have HQ := Lib.hid hq
    have hG1 := HG.out.1.below hbW HG.out.2
    have HVV := Lib.hid (HV.out 0 t 0 (w.heap.size + 1 + 1 + 1) w1 hp1 hG1 (HG.out.2.mono (by omega)) (by omega) (by omega) (by decide) (by omega) (by omega))
    have HRW := Lib.hid hRW
    have HBW := Lib.hid hbW
    clear hq hp1 hG1 hRW hbW ht HN HB HRES
    go_wp2_with fail
    refine HVV.out.mono ?_
    rintro o w2 ⟨ht, hn⟩
    have hRW : ResW w.heap.size (w.heap.size + 1) (w.heap.size + 1 + 1) zC.toArray 0 0 w2 := ⟨(ht.block _ (Array.getElem?_eq_some_iff.1 HRW.out.z).1 (by simp; omega)).trans HRW.out.z, (ht.block _ (Array.getElem?_eq_some_iff.1 HRW.out.a).1 (by simp)).trans HRW.out.a, (ht.block _ (Array.getElem?_eq_some_iff.1 HRW.out.e).1 (by simp)).trans HRW.out.e⟩
    have hbW : Below w.heap.size w w2 := touch_old HBW.out (by omega) ht
    cases hq : valP s 8200 0 t 0 with
    | error x =>
      rw [hq] at hn
      obtain rfl := hn
      have hm := parM_val HM.out HQ.out hq
      refine leaves_cons (f := 25) (args := #[.pointer (some ⟨w.heap.size, 0, none⟩), .pointer (some ⟨w.heap.size + 1, 0, none⟩), .pointer (some ⟨w.heap.size + 1 + 1, 0, none⟩)]) (by simp) (by simp [go_sem]) ?_
      refine (catch_panicking w.heap.size (w.heap.size + 1) (w.heap.size + 1 + 1) _ _ _ _ _ _ _ _ x [] _ hRW ⟨by omega, by omega, by omega⟩).mono ?_
      rintro o u' w' ⟨rfl, rfl, hr, ht⟩
      obtain ⟨y0, y1, y2, y3, y4, y5⟩ := cells6 hr.z
      have ya : w'.cell? ⟨w.heap.size + 1, 0, none⟩ = some (.int .i64 x.1) := cell_of_row _ _ _ _ _ _ hr.a
      have ye : w'.cell? ⟨w.heap.size + 1 + 1, 0, none⟩ = some (.int .i64 x.2) := cell_of_row _ _ _ _ _ _ hr.e
      refine ⟨.tuple #[.agg #[.int .i64 0, .int .i64 0, .int .u64 0, .string ⟨#[]⟩, .slice none 0 0, .slice none 0 0], .int .i64 x.1, .int .i64 x.2], by simp [results, Tryz.results11, go_sem, y0, y1, y2, y3, y4, y5, ya, ye], ?_⟩
      unfold ParPost
      rw [hm]
      exact ⟨⟨_, rfl, leaf_fresh (0, 0, 0, [])⟩, ⟨ht.os.trans hbW.os, ht.tape.trans hbW.tape, ht.output.trans hbW.output, Nat.le_trans hbW.size ht.size, fun i hi => (ht.block i (Nat.lt_of_lt_of_le hi hbW.size) (by simp; omega)).trans (hbW.block i hi)⟩⟩
    | ok p =>
      obtain ⟨T, t1, m⟩ := p
      rw [hq] at hn
      obtain ⟨hp2, v, rfl, x0, x1, x2, x3, x4, x5, bs, rfl, hN, hnd, hge⟩ := hn
      have HPM := Lib.hid (parM_end HM.out HQ.out hq)
      obtain ⟨kd1, nn1, uu1, s1, B1, m1, d1, B2, m2, d2, rfl, rfl, rfl, rfl, rfl, rfl⟩ := hN.form2
      obtain ⟨y0, y1, y2, y3, y4, y5⟩ := cells6 hRW.z
      have f0 : w2.frozen? ⟨w.heap.size, 0, none⟩ = false := frozen_of_row _ _ _ _ _ hRW.z
      have f1 : w2.frozen? ⟨w.heap.size, 1, none⟩ = false := frozen_of_row _ _ _ _ _ hRW.z
      have f2 : w2.frozen? ⟨w.heap.size, 2, none⟩ = false := frozen_of_row _ _ _ _ _ hRW.z
      have f3 : w2.frozen? ⟨w.heap.size, 3, none⟩ = false := frozen_of_row _ _ _ _ _ hRW.z
      have f4 : w2.frozen? ⟨w.heap.size, 4, none⟩ = false := frozen_of_row _ _ _ _ _ hRW.z
      have f5 : w2.frozen? ⟨w.heap.size, 5, none⟩ = false := frozen_of_row _ _ _ _ _ hRW.z
      obtain ⟨-, c1, -⟩ := hp2.cells
      have hst := six_at hRW hbW (Array.getElem?_eq_some_iff.1 HRW.out.e).1 hp2 (by omega) hN hge
      have HST := Lib.hid hst
      have HB1 := Lib.hid HBW.out.size
      have HY := Lib.hid (need_any s t1 m (w.heap.size + 1 + 1 + 1))
      clear hst hRW hbW ht hp2 hN HVV HV HQ hq HBW HRW
      by_cases hk : t1.kind = 0
      · have e1 : (t1.kind == 0) = true := by simp [hk]
        have hm : parM s = (T, 0, 0) := HPM.out.trans (if_neg (by omega))
        clear HPM hk
        go_wp2_with fail
        refine (HY.out true 100 _ HST.out.p).mono ?_
        rintro o w3 ⟨rfl, rfl⟩
        obtain ⟨W, hW⟩ : ∃ W, W = ((((((w2.setCell ⟨w.heap.size, 0, none⟩ (.int .i64 kd1)).setCell ⟨w.heap.size, 1, none⟩ (.int .i64 nn1)).setCell ⟨w.heap.size, 2, none⟩ (.int .u64 uu1)).setCell ⟨w.heap.size, 3, none⟩ (.string s1)).setCell ⟨w.heap.size, 4, none⟩ (.slice B1 m1 d1)).setCell ⟨w.heap.size, 5, none⟩ (.slice B2 m2 d2)) := ⟨_, rfl⟩
        have HST2 : Hid (SixSt w W (w.heap.size + 1 + 1 + 1) s t1 m T (.int .i64 kd1) (.int .i64 nn1) (.int .u64 uu1) (.string s1) (.slice B1 m1 d1) (.slice B2 m2 d2) bs) := by rw [hW]; exact HST
        rw [← hW]
        have hR3 := HST2.out.r
        clear HST hW HY y0 y1 y2 y3 y4 y5 f0 f1 f2 f3 f4 f5 c1
        obtain ⟨y0, y1, y2, y3, y4, y5⟩ := cells6 hR3.z
        have f0 : W.frozen? ⟨w.heap.size, 0, none⟩ = false := frozen_of_row _ _ _ _ _ hR3.z
        have f1 : W.frozen? ⟨w.heap.size, 1, none⟩ = false := frozen_of_row _ _ _ _ _ hR3.z
        have f2 : W.frozen? ⟨w.heap.size, 2, none⟩ = false := frozen_of_row _ _ _ _ _ hR3.z
        have f3 : W.frozen? ⟨w.heap.size, 3, none⟩ = false := frozen_of_row _ _ _ _ _ hR3.z
        have f4 : W.frozen? ⟨w.heap.size, 4, none⟩ = false := frozen_of_row _ _ _ _ _ hR3.z
        have f5 : W.frozen? ⟨w.heap.size, 5, none⟩ = false := frozen_of_row _ _ _ _ _ hR3.z
        have ya : W.cell? ⟨w.heap.size + 1, 0, none⟩ = some (.int .i64 0) := cell_of_row _ _ _ _ _ _ hR3.a
        have ye : W.cell? ⟨w.heap.size + 1 + 1, 0, none⟩ = some (.int .i64 0) := cell_of_row _ _ _ _ _ _ hR3.e
        have fa : W.frozen? ⟨w.heap.size + 1, 0, none⟩ = false := frozen_of_row _ _ _ _ _ hR3.a
        have fe : W.frozen? ⟨w.heap.size + 1 + 1, 0, none⟩ = false := frozen_of_row _ _ _ _ _ hR3.e
        clear hR3
        go_wp2_with fail
        have hF := HST2.out.again (by omega)
        clear HST2
        generalize (((((((W.setCell ⟨w.heap.size, 0, none⟩ (.int .i64 kd1)).setCell ⟨w.heap.size, 1, none⟩ (.int .i64 nn1)).setCell ⟨w.heap.size, 2, none⟩ (.int .u64 uu1)).setCell ⟨w.heap.size, 3, none⟩ (.string s1)).setCell ⟨w.heap.size, 4, none⟩ (.slice B1 m1 d1)).setCell ⟨w.heap.size, 5, none⟩ (.slice B2 m2 d2)).setCell ⟨w.heap.size + 1, 0, none⟩ (.int .i64 0)).setCell ⟨w.heap.size + 1 + 1, 0, none⟩ (.int .i64 0) = V at hF ⊢
        refine leaves_cons (f := 25) (args := #[.pointer (some ⟨w.heap.size, 0, none⟩), .pointer (some ⟨w.heap.size + 1, 0, none⟩), .pointer (some ⟨w.heap.size + 1 + 1, 0, none⟩)]) (by simp) (by simp [go_sem]) ?_
        refine (catch_idle w.heap.size (w.heap.size + 1) (w.heap.size + 1 + 1) V).mono ?_
        rintro o u' w' ⟨rfl, rfl, rfl⟩
        obtain ⟨z0, z1, z2, z3, z4, z5⟩ := cells6 hF.r.z
        have za : w'.cell? ⟨w.heap.size + 1, 0, none⟩ = some (.int .i64 0) := cell_of_row _ _ _ _ _ _ hF.r.a
        have ze : w'.cell? ⟨w.heap.size + 1 + 1, 0, none⟩ = some (.int .i64 0) := cell_of_row _ _ _ _ _ _ hF.r.e
        refine ⟨.tuple #[.agg #[.int .i64 kd1, .int .i64 nn1, .int .u64 uu1, .string s1, .slice B1 m1 d1, .slice B2 m2 d2], .int .i64 0, .int .i64 0], by simp [results, Tryz.results11, go_sem, z0, z1, z2, z3, z4, z5, za, ze], ?_⟩
        unfold ParPost
        rw [hm]
        exact ⟨⟨_, rfl, _, _, _, _, _, _, bs, rfl, hF.n, hnd, fun i hi => by have := hF.g i hi; omega⟩, hF.b⟩
      · have e1 : (t1.kind == 0) = false := by simp [hk]
        have hm : parM s = (zeroD, t1.from_, 100) := HPM.out.trans (if_pos hk)
        clear HPM hk
        go_wp2_with fail
        refine (HY.out false 100 _ HST.out.p).mono ?_
        rintro o w3 ⟨rfl, rfl⟩
        have hRW := HST.out.r
        have hbW := HST.out.b
        refine leaves_cons (f := 25) (args := #[.pointer (some ⟨w.heap.size, 0, none⟩), .pointer (some ⟨w.heap.size + 1, 0, none⟩), .pointer (some ⟨w.heap.size + 1 + 1, 0, none⟩)]) (by simp) (by simp [go_sem]) ?_
        refine (catch_panicking w.heap.size (w.heap.size + 1) (w.heap.size + 1 + 1) _ _ _ _ _ _ _ _ (t1.from_, 100) [] _ hRW ⟨by omega, by omega, by omega⟩).mono ?_
        rintro o u' w' ⟨rfl, rfl, hr, ht⟩
        obtain ⟨y0, y1, y2, y3, y4, y5⟩ := cells6 hr.z
        have ya : w'.cell? ⟨w.heap.size + 1, 0, none⟩ = some (.int .i64 t1.from_) := cell_of_row _ _ _ _ _ _ hr.a
        have ye : w'.cell? ⟨w.heap.size + 1 + 1, 0, none⟩ = some (.int .i64 100) := cell_of_row _ _ _ _ _ _ hr.e
        refine ⟨.tuple #[.agg #[.int .i64 0, .int .i64 0, .int .u64 0, .string ⟨#[]⟩, .slice none 0 0, .slice none 0 0], .int .i64 t1.from_, .int .i64 100], by simp [results, Tryz.results11, go_sem, y0, y1, y2, y3, y4, y5, ya, ye], ?_⟩
        unfold ParPost
        rw [hm]
        exact ⟨⟨_, rfl, leaf_fresh (0, 0, 0, [])⟩, ⟨ht.os.trans hbW.os, ht.tape.trans hbW.tape, ht.output.trans hbW.output, Nat.le_trans hbW.size ht.size, fun i hi => (ht.block i (Nat.lt_of_lt_of_le hi hbW.size) (by simp; omega)).trans (hbW.block i hi)⟩⟩
/-- parse.Parse. -/
theorem parse_any (s : List UInt8) (w : World) (hl : s.length ≤ 1073741824) (hGl : Glb w) (hGB : Gb w.heap.size) : Calls Tryz.prog 11 #[strV s] w (ParPost w s) := by
  by_cases h : 1048576 < s.length
  · exact parse_long s w hl h
  · exact parse_short s w (by omega) hGl hGB
end Go.Proofs.YtccmhhmdenfecaaGreatDoor
