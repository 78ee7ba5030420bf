/- The walks of parse.reader's list and its closure. -/
import Derived.Test.YtccmhhmdenfecaaGreatDoorJd
import Derived.Test.YtccmhhmdenfecaaGreatDoorJf
namespace Go.Proofs.YtccmhhmdenfecaaGreatDoor
set_option linter.unusedVariables false
set_option linter.unusedSimpArgs false
open Go.RowKit Go.Shelf
/-- What value leaves. -/
def ValPost (w : World) (R : Nat) (s : List UInt8) (r : VR) (o : Ending) (w' : World) : Prop :=
  Touch [R] w w' ∧ match r with
  | .ok (T, t1, m) => PRow w' R s t1 m ∧ ∃ v, o = .returned v ∧ Fresh w.heap.size w' T v
  | .error x => o = .panicked (panV x)
def ValC (s : List UInt8) (g : Nat) : Prop := ∀ (deep : Int) (t : Tok) (many : Int) (R : Nat) (w : World), PRow w R s t many → Glb w → Gb R → 0 ≤ many → many ≤ 4096 → 2 * (4096 - many) + 1 ≤ g → 0 ≤ deep → deep ≤ 64 →
  Calls Tryz.prog 27 #[.pointer (some ⟨R, 0, none⟩), .int .i64 deep] w (ValPost w R s (valP s g deep t many))
def outC (kd : Int) (kv lv : Value) : Array Value := #[.int .i64 kd, .int .i64 0, .int .u64 0, .string ⟨#[]⟩, kv, lv]
/-- What the closure of a list, of a map keeps: the parser's address, the depth, the node so far. -/
structure LJ (kd : Int) (O Lb : Nat) (E : List (Nat × Obj)) (ks : List (List UInt8)) (acc : List DT) (kv lv : Value) (xs : List Value) (bl : List Nat) (w : World) : Prop where
  e : ∀ p ∈ E, w.heap[p.1]? = some p.2
  o : w.heap[O]? = some (.cells (outC kd kv lv) 27 (0, 0))
  k : Kids w Lb ks acc kv lv xs bl
theorem LJ.same {kd : Int} {R O Lb : Nat} {E : List (Nat × Obj)} {ks : List (List UInt8)} {acc : List DT} {kv lv : Value} {xs : List Value} {bl : List Nat} {w w' : World} (h : LJ kd O Lb E ks acc kv lv xs bl w) (hR : R < Lb ∧ R < O ∧ ∀ p ∈ E, R < p.1) (ht : Touch [R] w w') : LJ kd O Lb E ks acc kv lv xs bl w' :=
  ⟨fun p hp => (ht.block p.1 (Array.getElem?_eq_some_iff.1 (h.e p hp)).1 (by have := hR.2.2 p hp; simp; omega)).trans (h.e p hp), (ht.block O (Array.getElem?_eq_some_iff.1 h.o).1 (by simp; omega)).trans h.o, h.k.touch ht hR.1⟩
def LJx (kd : Int) (O Lb : Nat) (E : List (Nat × Obj)) (ks : List (List UInt8)) (acc : List DT) (w : World) : Prop := ∃ kv lv xs bl, LJ kd O Lb E ks acc kv lv xs bl w
def zC : List Value := [.int .i64 0, .int .i64 0, .int .u64 0, .string ⟨#[]⟩, .slice none 0 0, .slice none 0 0]
theorem zero_rep (w : World) : NRep w zeroD zC [] := by
  unfold zeroD zC
  rw [NRep]
  exact ⟨.slice none 0 0, .slice none 0 0, [], [], rfl, World.ownsRow_nil _ _ _ _, World.ownsRow_nil _ _ _ _, by rw [NReps]; exact ⟨rfl, rfl⟩, rfl⟩
/-- The last child is put in the place of the zero node. -/
theorem Kids.put {w w' : World} {B : Nat} {ks : List (List UInt8)} {l : List DT} {kv : Value} {g c : Nat} {xs : List Value} {bl : List Nat} {T : DT} {bs : List Nat} {x0 x1 x2 x3 x4 x5 : Value}
    (h : Kids w B ks (l ++ [zeroD]) kv (.slice (some ⟨g, 0, none⟩) (l.length + 1) c) (xs ++ zC) bl) (hx : xs.length = l.length * 6) (hn : NReps w l xs bl) (hT : NRep w T [x0, x1, x2, x3, x4, x5] bs) (hnd : bs.Nodup) (hge : ∀ i ∈ bs, B ≤ i) (hdis : ∀ i ∈ bs, i ∉ blkL kv ++ (blkL (.slice (some ⟨g, 0, none⟩) (l.length + 1) c) ++ bl))
    (hw : w' = ((((((w.setCell ⟨g, l.length * 6, none⟩ x0).setCell ⟨g, l.length * 6 + 1, none⟩ x1).setCell ⟨g, l.length * 6 + 2, none⟩ x2).setCell ⟨g, l.length * 6 + 3, none⟩ x3).setCell ⟨g, l.length * 6 + 4, none⟩ x4).setCell ⟨g, l.length * 6 + 5, none⟩ x5)) :
    Kids w' B ks (l ++ [T]) kv (.slice (some ⟨g, 0, none⟩) (l.length + 1) c) (xs ++ [x0, x1, x2, x3, x4, x5]) (bl ++ bs) := by
  have hgb : g ∈ blkL (.slice (some ⟨g, 0, none⟩) (l.length + 1) c) := by simp [blkL, Value.ownBlock]
  have hg : ∀ i, i ≠ g → w'.heap[i]? = w.heap[i]? := by
    intro i hi
    rw [hw, heap_setCell_other _ _ _ _ hi, heap_setCell_other _ _ _ _ hi, heap_setCell_other _ _ _ _ hi, heap_setCell_other _ _ _ _ hi, heap_setCell_other _ _ _ _ hi, heap_setCell_other _ _ _ _ hi]
  have hnd0 := h.nd
  rw [List.nodup_append] at hnd0
  obtain ⟨n1, n2, n3⟩ := hnd0
  rw [List.nodup_append] at n2
  obtain ⟨n4, n5, n6⟩ := n2
  have hr := h.r
  rw [List.length_append, List.length_singleton] at hr
  refine ⟨own_same2 h.k fun i hi => hg i fun e => n3 i hi g (by simp [hgb]) e, ?_, NReps.snoc _ _ _ _ _ _ (NReps.same _ _ _ hn fun i hi => hg i fun e => n6 g hgb i hi e.symm) (NRep.same _ _ _ hT fun i hi => hg i fun e => hdis i hi (by rw [e]; simp [hgb])), ?_, ?_⟩
  · rw [hw, List.length_append, List.length_singleton]
    have := own_six (ys := []) hr hx x0 x1 x2 x3 x4 x5
    simpa using this
  · rw [List.nodup_append]
    refine ⟨n1, ?_, ?_⟩
    · rw [List.nodup_append]
      refine ⟨n4, ?_, ?_⟩
      · rw [List.nodup_append]
        exact ⟨n5, hnd, fun i hi j hj e => hdis j hj (by rw [← e]; simp [hi])⟩
      · intro i hi j hj e
        rcases List.mem_append.1 hj with hj | hj
        · exact n6 i hi j hj e
        · exact hdis j hj (by rw [← e]; simp [hi])
    · intro i hi j hj e
      rcases List.mem_append.1 hj with hj | hj
      · exact n3 i hi j (by simp [hj]) e
      · rcases List.mem_append.1 hj with hj | hj
        · exact n3 i hi j (by simp [hj]) e
        · exact hdis j hj (by rw [← e]; simp [hi])
  · intro i hi
    simp only [List.mem_append] at hi
    rcases hi with hi | hi | hi | hi
    · exact h.ge i (by simp [hi])
    · exact h.ge i (by simp [hi])
    · exact h.ge i (by simp [hi])
    · exact hge i hi
theorem Fresh.below {B : Nat} {w w' : World} {T : DT} {v : Value} (h : Fresh B w T v) (hb : Below w.heap.size w w') : Fresh B w' T v := by
  obtain ⟨x0, x1, x2, x3, x4, x5, bs, e, hn, hnd, hge⟩ := h
  exact ⟨x0, x1, x2, x3, x4, x5, bs, e, hn.below hb, hnd, hge⟩
def lightL (R A0 A1 O n : Nat) (dp : Int) (lv : Value) (t : Tmp) : Option Value := match t with
  | 0 => some (.pointer (some ⟨O, 0, none⟩))
  | 1 => some (.pointer (some ⟨A0, 0, none⟩))
  | 2 => some (.pointer (some ⟨A1, 0, none⟩))
  | 3 => some (.pointer (some ⟨O, 5, none⟩))
  | 4 => some lv
  | 5 => some (.pointer (some ⟨R, 0, none⟩))
  | 6 => some (.int .i64 dp)
  | 7 => some (.int .i64 (dp + 1))
  | 9 => some (.int .i64 n)
  | 13 => some (.pointer (some ⟨O, 5, none⟩))
  | _ => none
/-- Ahead of the append. -/
def StLa (R O Lb : Nat) (E : List (Nat × Obj)) (s : List UInt8) (wr : World) (tk : Tok) (many : Int) (ks : List (List UInt8)) (acc : List DT) (kv lv : Value) (xs : List Value) (bl : List Nat) (r : VR) (D : Nat → Bool) (ev : Tmp → Value) (w : World) : Prop :=
  D 8 = false ∧ D 9 = false ∧ D 10 = false ∧ D 12 = false ∧ LJ 10 O Lb E ks acc kv lv xs bl w ∧ (D 5 = false → PRow w R s tk many) ∧
  (D 5 = true → ∃ T t1 m, r = .ok (T, t1, m) ∧ PRow w R s t1 m ∧ Fresh wr.heap.size w T (ev 8)) ∧
  (D 7 = true → ∃ g, ev 10 = .slice (some ⟨g, 0, none⟩) 1 1 ∧ w.heap[g]? = some (.cells zC.toArray 27 (0, 0)) ∧ g ≠ R)
/-- Behind the append. -/
def StLb (R O Lb : Nat) (E : List (Nat × Obj)) (s : List UInt8) (wr : World) (ks : List (List UInt8)) (acc : List DT) (kv lv : Value) (xs : List Value) (bl : List Nat) (r : VR) (D : Nat → Bool) (ev : Tmp → Value) (w : World) : Prop :=
  D 5 = true ∧ D 7 = true ∧ D 8 = true ∧ (D 10 = true → D 9 = true) ∧ ∃ T t1 m g c, r = .ok (T, t1, m) ∧ PRow w R s t1 m ∧ ev 11 = .slice (some ⟨g, 0, none⟩) (acc.length + 1) c ∧ (D 9 = true → ev 12 = .pointer (some ⟨g, acc.length * 6, none⟩)) ∧
    (∀ p ∈ E, w.heap[p.1]? = some p.2) ∧
    w.heap[O]? = some (.cells (outC 10 kv (if D 12 = true then .slice (some ⟨g, 0, none⟩) (acc.length + 1) c else lv)) 27 (0, 0)) ∧
    (D 10 = false → Kids w Lb ks (acc ++ [zeroD]) kv (.slice (some ⟨g, 0, none⟩) (acc.length + 1) c) (xs ++ zC) bl ∧ xs.length = acc.length * 6 ∧ NReps w acc xs bl ∧ ∃ x0 x1 x2 x3 x4 x5 bs, ev 8 = .agg #[x0, x1, x2, x3, x4, x5] ∧ NRep w T [x0, x1, x2, x3, x4, x5] bs ∧ bs.Nodup ∧ (∀ i ∈ bs, wr.heap.size ≤ i) ∧ ∀ i ∈ bs, i ∉ blkL kv ++ (blkL (.slice (some ⟨g, 0, none⟩) (acc.length + 1) c) ++ bl)) ∧
    (D 10 = true → ∃ x0 x1 x2 x3 x4 x5 bs, Kids w Lb ks (acc ++ [T]) kv (.slice (some ⟨g, 0, none⟩) (acc.length + 1) c) (xs ++ [x0, x1, x2, x3, x4, x5]) (bl ++ bs))
def StL (B R O Lb : Nat) (E : List (Nat × Obj)) (s : List UInt8) (wr : World) (tk : Tok) (many : Int) (ks : List (List UInt8)) (acc : List DT) (kv lv : Value) (xs : List Value) (bl : List Nat) (r : VR) (D : Nat → Bool) (ev : Tmp → Value) (w : World) : Prop :=
  Tch B [R] wr w ∧ wr.heap.size ≤ w.heap.size ∧ (StLa R O Lb E s wr tk many ks acc kv lv xs bl r D ev w ∨ StLb R O Lb E s wr ks acc kv lv xs bl r D ev w)
theorem StL_sc (B R O Lb A0 A1 : Nat) (dp : Int) (E : List (Nat × Obj)) (s : List UInt8) (wr : World) (tk : Tok) (many : Int) (ks : List (List UInt8)) (acc : List DT) (kv lv : Value) (xs : List Value) (bl : List Nat) (r : VR) (D D' : Nat → Bool) (ev ev' : Tmp → Value) (w : World)
    (h : ∀ i ∈ [5, 7, 8, 9, 10, 12], D i = D' i) (he : ∀ t, lightL R A0 A1 O acc.length dp lv t = none → ev t = ev' t) (hs : StL B R O Lb E s wr tk many ks acc kv lv xs bl r D ev w) : StL B R O Lb E s wr tk many ks acc kv lv xs bl r D' ev' w := by
  unfold StL StLa StLb at hs ⊢
  rwa [← h 5 (by decide), ← h 7 (by decide), ← h 8 (by decide), ← h 9 (by decide), ← h 10 (by decide), ← h 12 (by decide), ← he 8 rfl, ← he 10 rfl, ← he 11 rfl, ← he 12 rfl]
theorem StL.ex {B R O Lb : Nat} {E : List (Nat × Obj)} {s : List UInt8} {wr : World} {tk : Tok} {many : Int} {ks : List (List UInt8)} {acc : List DT} {kv lv : Value} {xs : List Value} {bl : List Nat} {r : VR} {D : Nat → Bool} {ev : Tmp → Value} {w : World} (h : StL B R O Lb E s wr tk many ks acc kv lv xs bl r D ev w) :
    ∀ p ∈ E, w.heap[p.1]? = some p.2 := by
  rcases h with ⟨-, -, ⟨-, -, -, -, hj, -⟩ | ⟨-, -, -, -, T, t1, m, g, c, -, -, -, -, h1, -⟩⟩
  · exact hj.e
  · exact h1
set_option maxHeartbeats 16000000 in
set_option maxRecDepth 100000 in
theorem list1_any (s : List UInt8) (R B A0 A1 O Lb : Nat) (E : List (Nat × Obj)) (dp : Int) (hRB : R < B) (hO : B ≤ O) (hOL : O < Lb) (hEx : ∀ p ∈ E, B ≤ p.1 ∧ p.1 < Lb ∧ p.1 ≠ O) (hE0 : (A0, Obj.cells #[.pointer (some ⟨R, 0, none⟩)] 58 (0, 0)) ∈ E) (hE1 : (A1, Obj.cells #[.int .i64 dp] 3 (0, 0)) ∈ E) (hd0 : 0 ≤ dp) (hd1 : dp ≤ 63) (hGR : Gb R) (g : Nat) (HV : ValC s g)
    (w0 wr : World) (tk : Tok) (many : Int) (ks : List (List UInt8)) (acc : List DT) (hE : EaW B R s (LJx 10 O Lb E) w0 tk many ks acc wr) (hLb : Lb ≤ wr.heap.size) (hGl : Glb wr) (hm0 : 0 ≤ many) (hm : many ≤ 4096) (hf : 2 * (4096 - many) + 1 ≤ g) :
    Calls Tryz.prog 90 #[.pointer (some ⟨O, 0, none⟩), .pointer (some ⟨A0, 0, none⟩), .pointer (some ⟨A1, 0, none⟩)] wr (OneP B R s (LJx 10 O Lb E) acc wr (oneR s g false (dp + 1) tk many ks)) := by
  obtain ⟨kv, lv, xs, bl, hj⟩ := hE.j
  have hn := hE.n
  have hB := hE.b
  have hone : oneR s g false (dp + 1) tk many ks = match valP s g (dp + 1) tk many with | .error x => .error x | .ok (T, t2, m) => .ok (ks, T, t2, m) := rfl
  rw [hone]
  have HP := Lib.hid hE.p
  clear hE hone
  have HVV := Lib.hid fun (W : World) (h : PRow W R s tk many) (hg : Glb W) => HV (dp + 1) tk many R W h hg hGR hm0 hm hf (by omega) (by omega)
  generalize valP s g (dp + 1) tk many = r at *
  obtain ⟨Al, cl, rfl⟩ := owns_ptr hj.k.r
  have hRr := HP.out.lt
  have hOr := (Array.getElem?_eq_some_iff.1 hj.o).1
  have hRE : R < Lb ∧ R < O ∧ ∀ p ∈ E, R < p.1 := ⟨by omega, by omega, fun p hp => by have := hEx p hp; omega⟩
  obtain ⟨i0, hi, hz0, hz1, hz2⟩ := info_parts nodeInfo
  have H63 : acc.length + 1 ≤ maxLen := by unfold maxLen; omega
  have HBY : (acc.length + 1) * 88 ≤ 140737488355328 := by omega
  go_enter Tryz.func90, Tryz.ntmps90
  go_upto_region 0 with fail
  refine wp_region_stage (n := 14) (lightL R A0 A1 O acc.length dp (.slice Al acc.length cl)) [5, 7, 8, 9, 10, 12] (StL B R O Lb E s wr tk many ks acc kv (.slice Al acc.length cl) xs bl r) (by kernel_rfl) (by kernel_rfl) rfl (StL_sc B R O Lb A0 A1 dp E s wr tk many ks acc kv (.slice Al acc.length cl) xs bl r) ?_ ?_ ?_ ?_ ?_ ?_
  · intro t V hl ht
    unfold lightL at hl
    split at hl
    · cases hl; rfl
    · cases hl; rfl
    · cases hl; rfl
    · exact absurd rfl (ht 0 _ rfl)
    · exact absurd rfl (ht 1 _ rfl)
    · exact absurd rfl (ht 2 _ rfl)
    · exact absurd rfl (ht 3 _ rfl)
    · exact absurd rfl (ht 4 _ rfl)
    · exact absurd rfl (ht 6 _ rfl)
    · exact absurd rfl (ht 11 _ rfl)
    · cases hl
  · refine ⟨(Tch.refl B [R] wr).drew, Nat.le_refl _, .inl ⟨rfl, rfl, rfl, rfl, hj.same hRE (Touch.drew wr [R]), fun _ => HP.out, (fun h => by cases h), (fun h => by cases h)⟩⟩
  · intro jq oq hjq hns
    match jq, hjq, hns with
    | 0, hjq, _ =>
      simp only [List.getElem?_toArray, List.getElem?_cons_zero, List.getElem?_cons_succ, Option.some.injEq] at hjq
      subst hjq
      refine ⟨3, _, rfl, rfl, fun D a w hS hall hDi hcl hk => ⟨rfl, opwp_faN5 rfl (hk 0 (by decide) _ rfl) ⟨rfl, rfl⟩⟩⟩
    | 1, hjq, _ =>
      simp only [List.getElem?_toArray, List.getElem?_cons_zero, List.getElem?_cons_succ, Option.some.injEq] at hjq
      subst hjq
      refine ⟨4, _, rfl, rfl, fun D a w hS hall hDi hcl hk => ⟨rfl, ?_⟩⟩
      rcases hS.2.2 with ⟨-, -, -, -, hj', -⟩ | ⟨-, -, h8, -⟩
      · exact opwp_ldL rfl (hk 3 (by decide) _ rfl) (cell_of_row _ _ _ _ _ _ hj'.o) ⟨rfl, rfl⟩
      · exfalso
        have : D 1 = true := hcl 8 _ rfl h8 _ (Array.getElem_mem (i := 0) (by decide)) rfl
        rw [hDi] at this; cases this
    | 2, hjq, _ =>
      simp only [List.getElem?_toArray, List.getElem?_cons_zero, List.getElem?_cons_succ, Option.some.injEq] at hjq
      subst hjq
      refine ⟨5, _, rfl, rfl, fun D a w hS hall hDi hcl hk => ⟨rfl, opwp_ldP rfl (hk 1 (by decide) _ rfl) (cell_of_row _ _ _ _ _ _ (hS.ex _ hE0)) ⟨rfl, rfl⟩⟩⟩
    | 3, hjq, _ =>
      simp only [List.getElem?_toArray, List.getElem?_cons_zero, List.getElem?_cons_succ, Option.some.injEq] at hjq
      subst hjq
      refine ⟨6, _, rfl, rfl, fun D a w hS hall hDi hcl hk => ⟨rfl, opwp_ldI rfl (hk 2 (by decide) _ rfl) (cell_of_row _ _ _ _ _ _ (hS.ex _ hE1)) ⟨rfl, rfl⟩⟩⟩
    | 4, hjq, _ =>
      simp only [List.getElem?_toArray, List.getElem?_cons_zero, List.getElem?_cons_succ, Option.some.injEq] at hjq
      subst hjq
      refine ⟨7, _, rfl, rfl, fun D a w hS hall hDi hcl hk => ⟨rfl, opwp_add1I rfl (hk 6 (by decide) _ rfl) (by omega) (by omega) ⟨rfl, rfl⟩⟩⟩
    | 6, hjq, _ =>
      simp only [List.getElem?_toArray, List.getElem?_cons_zero, List.getElem?_cons_succ, Option.some.injEq] at hjq
      subst hjq
      refine ⟨9, _, rfl, rfl, fun D a w hS hall hDi hcl hk => ⟨rfl, opwp_lenN rfl (hk 4 (by decide) _ rfl) ⟨rfl, rfl⟩⟩⟩
    | 11, hjq, _ =>
      simp only [List.getElem?_toArray, List.getElem?_cons_zero, List.getElem?_cons_succ, Option.some.injEq] at hjq
      subst hjq
      refine ⟨13, _, rfl, rfl, fun D a w hS hall hDi hcl hk => ⟨rfl, opwp_faN5 rfl (hk 0 (by decide) _ rfl) ⟨rfl, rfl⟩⟩⟩
    | 5, _, h | 7, _, h | 8, _, h | 9, _, h | 10, _, h | 12, _, h => exact absurd (by decide) h
    | kq + 13, hjq, _ => cases hjq
  · intro jq oq hjq hsp d hd
    simp only [List.mem_cons, List.not_mem_nil, or_false] at hsp
    rcases hsp with rfl | rfl | rfl | rfl | rfl | rfl
    all_goals
      simp only [List.getElem?_toArray, List.getElem?_cons_zero, List.getElem?_cons_succ, Option.some.injEq] at hjq
      subst hjq
      cases hd
    all_goals rfl
  · intro jq oq hjq hsp D a w had hS hall hDi hcl hk
    simp only [List.mem_cons, List.not_mem_nil, or_false] at hsp
    obtain ⟨hT, hzw, hS⟩ := hS
    rcases hsp with rfl | rfl | rfl | rfl | rfl | rfl
    · simp only [List.getElem?_toArray, List.getElem?_cons_zero, List.getElem?_cons_succ, Option.some.injEq] at hjq
      subst hjq
      rcases hS with ⟨h8, h9, h10, h12, hj', hp5, -, h7⟩ | ⟨h5, -⟩
      case inr => rw [h5] at hDi; cases hDi
      have e5 : a.eval (.tmp 5) = .pointer (some ⟨R, 0, none⟩) := hk 5 (by decide) _ rfl
      have e7 : a.eval (.tmp 7) = .int .i64 (dp + 1) := hk 7 (by decide) _ rfl
      refine ⟨rfl, ?_⟩
      unfold Oper.wp
      rw [exec_call [a.eval (.tmp 5), a.eval (.tmp 7)] Tryz.func27 (by kernel_rfl) rfl rfl rfl, Oper.upon_enter, e5, e7]
      refine (HVV.out w (hp5 hDi) (hGl.tch hT (hGR.mono (Nat.le_of_lt hRB)) hGR)).mono ?_
      rintro o w' ⟨ht, hr⟩
      cases r with
      | error x =>
        obtain rfl := hr
        exact ⟨had, hT.trans (ht.tch (by omega)), rfl⟩
      | ok p =>
        obtain ⟨T, t1, m⟩ := p
        obtain ⟨hp1, v, rfl, hfr⟩ := hr
        refine ⟨v, rfl, hT.trans (ht.tch (by omega)), Nat.le_trans hzw ht.size, .inl ⟨h8, h9, h10, h12, hj'.same hRE ht, (fun h => by simp at h), fun _ => ⟨T, t1, m, rfl, hp1, ?_⟩, fun h => ?_⟩⟩
        · exact hfr.mono hzw
        · obtain ⟨gz, ez, hgz, hne⟩ := h7 h
          exact ⟨gz, ez, (ht.block gz (Array.getElem?_eq_some_iff.1 hgz).1 (by simpa using hne)).trans hgz, hne⟩
    · simp only [List.getElem?_toArray, List.getElem?_cons_zero, List.getElem?_cons_succ, Option.some.injEq] at hjq
      subst hjq
      rcases hS with ⟨h8, h9, h10, h12, hj', hp5, hr5, -⟩ | ⟨-, h7, -⟩
      case inr => rw [h7] at hDi; cases hDi
      have hbw : Below w.heap.size w (w.alloc (.cells zC.toArray 27)) := (Below.refl _ w).alloc (Nat.le_refl _) _
      refine ⟨rfl, opwp_bsZ rfl ⟨_, rfl, hT.alloc (by omega) _, Nat.le_trans hzw hbw.size, .inl ⟨h8, h9, h10, h12, hj'.same hRE (Touch.quiet hbw), fun h => (hp5 h).below hbw, fun h => ?_, fun _ => ⟨w.heap.size, rfl, heap_alloc_new _ _, ?_⟩⟩⟩⟩
      · obtain ⟨T, t1, m, e, hp, hf⟩ := hr5 h
        exact ⟨T, t1, m, e, hp.below hbw, hf.below hbw⟩
      · omega
    · simp only [List.getElem?_toArray, List.getElem?_cons_zero, List.getElem?_cons_succ, Option.some.injEq] at hjq
      subst hjq
      rcases hS with ⟨-, h9, h10, h12, hj', -, hr5, h7⟩ | ⟨-, -, h8, -⟩
      case inr => rw [h8] at hDi; cases hDi
      have hd5 : D 5 = true := hall _ (Array.getElem_mem (i := 2) (by decide)) rfl
      have hd7 : D 7 = true := hall _ (Array.getElem_mem (i := 1) (by decide)) rfl
      obtain ⟨T, t1, m, hr, hp1, x0, x1, x2, x3, x4, x5, bs, e8, hN, hnd, hge⟩ := hr5 hd5
      obtain ⟨gz, e10, hgz, hgR⟩ := h7 hd7
      have e4 : a.eval (.tmp 4) = .slice Al acc.length cl := hk 4 (by decide) _ rfl
      have hkl := hj.k.lt
      have hkg := hj'.k.ge
      have hRw := hp1.lt
      have hOw := (Array.getElem?_eq_some_iff.1 hj'.o).1
      have hbd := NRep.bd _ _ _ hN
      refine ⟨rfl, opwp_app 25 rfl 27 i0 (.agg #[.int .i64 0, .int .i64 0, .int .u64 0, .string ⟨#[]⟩, .slice none 0 0, .slice none 0 0]) 6 88 Tryz.underlying25 hi hz0 hz1 hz2 rfl (by decide) (.slice Al acc.length cl) acc.length xs e4 hj'.k.r ⟨gz, 0, none⟩ 1 1 zC e10 rfl (row_at hgz) six_one H63 HBY ?_⟩
      intro v' w3 ho hg hwh
      obtain ⟨A', c', rfl⟩ := owns_ptr ho
      obtain ⟨g', rfl, hg'lt, -⟩ := row_cell ho (by omega)
      have hK := Kids.push (lk := R) hj'.k (by omega) (Touch.refl [R] w) (zero_rep w) List.nodup_nil (fun i hi => by cases hi) (by omega) (Below.refl _ w) hg ho hwh
      rw [List.append_nil] at hK
      have hlv : ∀ i, (Value.slice Al acc.length cl).ownBlock = some i → Lb ≤ i ∧ i < wr.heap.size := fun i hi => ⟨hkg i (by simp [mem_blk, hi]), hkl i (by simp [mem_blk, hi])⟩
      have three : ∀ i, i < w.heap.size → (i < Lb ∨ wr.heap.size ≤ i) → w3.heap[i]? = w.heap[i]? := fun i hi hn => hg.block i hi (fun e => by have := hlv i e.symm; omega)
      have hndk := hj'.k.nd
      rw [List.nodup_append] at hndk
      have hndl := hndk.2.1
      rw [List.nodup_append] at hndl
      refine ⟨_, rfl, hT.trans ⟨hg.os, hg.tape, hg.output, hg.size, fun i hi hn => three i (by omega) (.inl (by omega))⟩, Nat.le_trans hzw hg.size, .inr ⟨hd5, hd7, rfl, fun h => (by rw [show D 10 = true from h] at h10; cases h10), T, t1, m, g', c', hr, hp1.same (three R hRw (.inl (by omega))), rfl, fun h => (by rw [show D 9 = true from h] at h9; cases h9), fun p hp => (three p.1 (Array.getElem?_eq_some_iff.1 (hj'.e p hp)).1 (.inl (hEx p hp).2.1)).trans (hj'.e p hp), ?_, fun _ => ⟨hK, ?_, ?_, x0, x1, x2, x3, x4, x5, bs, e8, NRep.same _ _ _ hN fun i hi => three i (hbd i hi) (.inr (hge i hi)), hnd, hge, ?_⟩, fun h => (by rw [show D 10 = true from h] at h10; cases h10)⟩⟩
      · rw [three O hOw (.inl hOL), hj'.o]
        rw [if_neg (show ¬ ((if (12 : Nat) = 8 then true else D 12) = true) by rw [show (if (12 : Nat) = 8 then true else D 12) = D 12 from rfl, h12]; decide)]
      · rw [hj.k.n.len]; omega
      · exact NReps.same _ _ _ hj'.k.n fun i hi => hg.block i (by have := hkl i (by simp [hi]); omega) (fun e => hndl.2.2 i (mem_blk.2 e.symm) i hi rfl)
      · intro i hi hm
        have h1 := hge i hi
        have h2 := hbd i hi
        rcases List.mem_append.1 hm with hm | hm
        · have := hkl i (by simp [hm]); omega
        · rcases List.mem_append.1 hm with hm | hm
          · rcases hwh with e | e
            · have := hlv i (by rw [← e]; exact mem_blk.1 hm); omega
            · have h3 := mem_blk.1 hm
              rw [e] at h3
              injection h3 with h3
              omega
          · have := hkl i (by simp [hm]); omega
    · simp only [List.getElem?_toArray, List.getElem?_cons_zero, List.getElem?_cons_succ, Option.some.injEq] at hjq
      subst hjq
      have hd8 : D 8 = true := hall _ (Array.getElem_mem (i := 0) (by decide)) rfl
      rcases hS with ⟨h8, -⟩ | ⟨h5, h7, -, h10, T, t1, m, g, c, hr, hp1, e11, -, q0, qo, hA, hBB⟩
      case inl => rw [h8] at hd8; cases hd8
      have e9 : a.eval (.tmp 9) = .int .i64 (acc.length : Nat) := hk 9 (by decide) _ rfl
      refine ⟨rfl, opwp_iaN rfl e11 e9 (by omega) ⟨_, rfl, hT, hzw, .inr ⟨h5, h7, hd8, fun _ => rfl, T, t1, m, g, c, hr, hp1, e11, fun _ => congrArg (fun k => Value.pointer (some ⟨g, k, none⟩)) (Nat.zero_add (acc.length * 6)), q0, qo, hA, hBB⟩⟩⟩
    · simp only [List.getElem?_toArray, List.getElem?_cons_zero, List.getElem?_cons_succ, Option.some.injEq] at hjq
      subst hjq
      have hd9 : D 9 = true := hall _ (Array.getElem_mem (i := 0) (by decide)) rfl
      rcases hS with ⟨-, h9, -⟩ | ⟨h5, h7, h8, h10, T, t1, m, g, c, hr, hp1, e11, e12, q0, qo, hA, hBB⟩
      case inl => rw [h9] at hd9; cases hd9
      have e12 := e12 hd9
      obtain ⟨hK, hxl, hnn, x0, x1, x2, x3, x4, x5, bs, e8, hN, hnd, hge, hdis⟩ := hA hDi
      obtain ⟨kd1, nn1, uu1, s1, B1, m1, d1, B2, m2, d2, rfl, rfl, rfl, rfl, rfl, rfl⟩ := hN.form2
      have hKr := hK.r
      rw [List.length_append, List.length_singleton] at hKr
      obtain ⟨g2, eg, hglt, hcell⟩ := row_cell hKr (by omega)
      injection eg with eg
      injection eg with eg
      subst eg
      have hc : ∀ j, j < 6 → w.cell? ⟨g, acc.length * 6 + j, none⟩ = zC[j]? := fun j hj => by
        rw [hcell _ (by omega), List.getElem?_append_right (by omega), hxl, Nat.add_sub_cancel_left]
      have hfz : ∀ i, w.frozen? ⟨g, i, none⟩ = false := by
        intro i
        rcases hKr.2 with ⟨e, -⟩ | ⟨g3, c3, cur, e, -, hh, -⟩
        · cases e
        · injection e with e
          injection e with e
          injection e with e
          subst e
          exact frozen_of_row _ _ _ _ _ hh
      have hgO : Lb ≤ g := hK.ge g (by simp [blkL, Value.ownBlock])
      have hoth : ∀ i, i < Lb → ∀ v0 v1 v2 v3 v4 v5 : Value, ((((((w.setCell ⟨g, acc.length * 6, none⟩ v0).setCell ⟨g, acc.length * 6 + 1, none⟩ v1).setCell ⟨g, acc.length * 6 + 2, none⟩ v2).setCell ⟨g, acc.length * 6 + 3, none⟩ v3).setCell ⟨g, acc.length * 6 + 4, none⟩ v4).setCell ⟨g, acc.length * 6 + 5, none⟩ v5).heap[i]? = w.heap[i]? := by
        intro i hi v0 v1 v2 v3 v4 v5
        have hne : i ≠ g := by omega
        rw [heap_setCell_other _ _ _ _ hne, heap_setCell_other _ _ _ _ hne, heap_setCell_other _ _ _ _ hne, heap_setCell_other _ _ _ _ hne, heap_setCell_other _ _ _ _ hne, heap_setCell_other _ _ _ _ hne]
      refine ⟨rfl, opwp_stE rfl rfl e12 e8 (hc 0 (by omega)) (hc 1 (by omega)) (hc 2 (by omega)) (hc 3 (by omega)) (hc 4 (by omega)) (hc 5 (by omega)) hfz ⟨undef, rfl, ?_, ?_, .inr ⟨h5, h7, h8, fun _ => hd9, T, t1, m, g, c, hr, hp1.same (hoth R (by omega) _ _ _ _ _ _), e11, fun _ => e12, fun p hp => (hoth p.1 (hEx p hp).2.1 _ _ _ _ _ _).trans (q0 p hp), (hoth O (by omega) _ _ _ _ _ _).trans qo, (fun h => by simp at h), fun _ => ⟨_, _, _, _, _, _, bs, Kids.put hK hxl hnn hN hnd (fun i hi => by have := hge i hi; omega) hdis rfl⟩⟩⟩⟩
      · exact (((((hT.setCell (p := ⟨g, acc.length * 6, none⟩) (by show B ≤ g; omega) _).setCell (p := ⟨g, acc.length * 6 + 1, none⟩) (by show B ≤ g; omega) _).setCell (p := ⟨g, acc.length * 6 + 2, none⟩) (by show B ≤ g; omega) _).setCell (p := ⟨g, acc.length * 6 + 3, none⟩) (by show B ≤ g; omega) _).setCell (p := ⟨g, acc.length * 6 + 4, none⟩) (by show B ≤ g; omega) _).setCell (p := ⟨g, acc.length * 6 + 5, none⟩) (by show B ≤ g; omega) _
      · simpa using hzw
    · simp only [List.getElem?_toArray, List.getElem?_cons_zero, List.getElem?_cons_succ, Option.some.injEq] at hjq
      subst hjq
      have hd8 : D 8 = true := hall _ (Array.getElem_mem (i := 1) (by decide)) rfl
      rcases hS with ⟨h8, -⟩ | ⟨h5, h7, -, h10, T, t1, m, g, c, hr, hp1, e11, e12, q0, qo, hA, hBB⟩
      case inl => rw [h8] at hd8; cases hd8
      have e13 : a.eval (.tmp 13) = .pointer (some ⟨O, 5, none⟩) := hk 13 (by decide) _ rfl
      rw [if_neg (by rw [hDi]; decide)] at qo
      have hne : ∀ i, i ≠ O → (w.setCell ⟨O, 5, none⟩ (.slice (some ⟨g, 0, none⟩) (acc.length + 1) c)).heap[i]? = w.heap[i]? := fun i hi => heap_setCell_other _ _ _ _ hi
      have hrow := heap_setCell_same w O 5 _ _ (.slice (some ⟨g, 0, none⟩) (acc.length + 1) c) qo
      refine ⟨rfl, opwp_stL rfl rfl e13 e11 (cell_of_row _ _ _ _ _ _ qo) (frozen_of_row _ _ _ _ _ qo) ⟨undef, rfl, hT.setCell (p := ⟨O, 5, none⟩) hO _, by simpa using hzw, .inr ⟨h5, h7, hd8, h10, T, t1, m, g, c, hr, hp1.same (hne R (by omega)), e11, e12, fun p hp => (hne p.1 (hEx p hp).2.2).trans (q0 p hp), ?_, fun h => ?_, fun h => ?_⟩⟩⟩
      · rw [if_pos (show ((fun j => if j = 12 then true else D j) 12) = true from rfl)]
        exact hrow
      · obtain ⟨hK, hxl, hnn, x0, x1, x2, x3, x4, x5, bs, e8, hN, hnd, hge, hdis⟩ := hA h
        refine ⟨hK.same fun i hi => hne i (by have := hK.ge i hi; omega), hxl, NReps.same _ _ _ hnn fun i hi => hne i (by have := hK.ge i (by simp [hi]); omega), x0, x1, x2, x3, x4, x5, bs, e8, NRep.same _ _ _ hN fun i hi => hne i (by have := hge i hi; omega), hnd, hge, hdis⟩
      · obtain ⟨x0, x1, x2, x3, x4, x5, bs, hK⟩ := hBB h
        exact ⟨x0, x1, x2, x3, x4, x5, bs, hK.same fun i hi => hne i (by have := hK.ge i hi; omega)⟩
  · intro D a w had hn' hDD hl h0 hS
    obtain ⟨hT, hzw, ⟨h8, -⟩ | ⟨h5, h7, -, h10, T, t1, m, g, c, rfl, hp1, e11, e12, q0, qo, hA, hBB⟩⟩ := hS
    · have := hDD 8 (by decide)
      rw [h8] at this
      cases this
    rw [if_pos (hDD 12 (by decide))] at qo
    obtain ⟨x0, x1, x2, x3, x4, x5, bs, hK⟩ := hBB (hDD 10 (by decide))
    refine ⟨had, .tuple #[], by simp [results, Tryz.results90], hT, rfl, hp1, _, _, _, _, q0, qo, hK⟩
/-- What list and members leave. -/
def ManyPost (kd : Int) (w : World) (R : Nat) (s : List UInt8) (r : ER) (o : Ending) (w' : World) : Prop :=
  Touch [R] w w' ∧ match r with
  | .ok (ks, l, t1, m) => PRow w' R s t1 m ∧ ∃ v, o = .returned v ∧ Fresh w.heap.size w' (.mk kd 0 0 [] ks l) v
  | .error x => o = .panicked (panV x)
def manyR (s : List UInt8) (g : Nat) (mp : Bool) (dp : Int) (t : Tok) (many : Int) : ER := match nextP s t with
  | .error x => .error x
  | .ok t1 => eachP s g mp (dp + 1) t1 many [] []
theorem six_over {T : List Nat} {a W : World} (h : Touch T a W) {Z : Nat} (hZ : a.heap.size ≤ Z) (v0 v1 v2 v3 v4 v5 : Value) :
    Touch T a ((((((W.setCell ⟨Z, 0, none⟩ v0).setCell ⟨Z, 1, none⟩ v1).setCell ⟨Z, 2, none⟩ v2).setCell ⟨Z, 3, none⟩ v3).setCell ⟨Z, 4, none⟩ v4).setCell ⟨Z, 5, none⟩ v5) :=
  (((((h.over (p := ⟨Z, 0, none⟩) hZ _).over (p := ⟨Z, 1, none⟩) hZ _).over (p := ⟨Z, 2, none⟩) hZ _).over (p := ⟨Z, 3, none⟩) hZ _).over (p := ⟨Z, 4, none⟩) hZ _).over (p := ⟨Z, 5, none⟩) hZ _
theorem alloc4 (w : World) (o1 o2 o3 o4 : Obj) : ((((w.alloc o1).alloc o2).alloc o3).alloc o4).heap[w.heap.size]? = some o1 ∧ ((((w.alloc o1).alloc o2).alloc o3).alloc o4).heap[w.heap.size + 1]? = some o2 ∧ ((((w.alloc o1).alloc o2).alloc o3).alloc o4).heap[w.heap.size + 2]? = some o3 ∧ ((((w.alloc o1).alloc o2).alloc o3).alloc o4).heap[w.heap.size + 3]? = some o4 := by
  have s1 : (w.alloc o1).heap.size = w.heap.size + 1 := World.size_alloc _ _
  have s2 : ((w.alloc o1).alloc o2).heap.size = w.heap.size + 2 := by rw [World.size_alloc, s1]
  have s3 : (((w.alloc o1).alloc o2).alloc o3).heap.size = w.heap.size + 3 := by rw [World.size_alloc, s2]
  have h1 := heap_alloc_new w o1
  have h2 := heap_alloc_new (w.alloc o1) o2
  have h3 := heap_alloc_new ((w.alloc o1).alloc o2) o3
  have h4 := heap_alloc_new (((w.alloc o1).alloc o2).alloc o3) o4
  rw [s1] at h2
  rw [s2] at h3
  rw [s3] at h4
  have b : ∀ (W : World) (o : Obj) (k : Nat), k < W.heap.size → (W.alloc o).heap[k]? = W.heap[k]? := fun W o k h => Below.heap_alloc W o k h
  exact ⟨(b _ _ _ (by omega)).trans ((b _ _ _ (by omega)).trans ((b _ _ _ (by omega)).trans h1)), (b _ _ _ (by omega)).trans ((b _ _ _ (by omega)).trans h2), (b _ _ _ (by omega)).trans h3, h4⟩
theorem LJx.ok {kd : Int} {R O Lb : Nat} {E : List (Nat × Obj)} (hR : R < Lb ∧ R < O ∧ ∀ p ∈ E, R < p.1) (ks : List (List UInt8)) (acc : List DT) (W W' : World) (ht : Touch [R] W W') (h : LJx kd O Lb E ks acc W) : LJx kd O Lb E ks acc W' := by
  obtain ⟨kv, lv, xs, bl, hj⟩ := h
  exact ⟨kv, lv, xs, bl, hj.same hR ht⟩
/-- The blocks of a list that stand. -/
def listE (B R : Nat) (dp : Int) : List (Nat × Obj) := [(B, .cells #[.pointer (some ⟨R, 0, none⟩)] 58 (0, 0)), (B + 1, .cells #[.int .i64 dp] 3 (0, 0)), (B + 2, .cells zC.toArray 27 (0, 0))]
theorem listE_lt {B R : Nat} {dp : Int} : ∀ p ∈ listE B R dp, B ≤ p.1 ∧ p.1 < B + 3 := by
  intro p hp
  simp only [listE, List.mem_cons, List.not_mem_nil, or_false] at hp
  rcases hp with rfl | rfl | rfl <;> exact ⟨by simp, by simp⟩
theorem kids_nil (w : World) (B : Nat) : Kids w B [] [] (.slice none 0 0) (.slice none 0 0) [] [] :=
  ⟨World.ownsRow_nil _ _ _ _, World.ownsRow_nil _ _ _ _, by rw [NReps]; exact ⟨rfl, rfl⟩, by simp [blkL, Value.ownBlock], by simp [blkL, Value.ownBlock]⟩
set_option maxHeartbeats 16000000 in
set_option maxRecDepth 100000 in
theorem list_any (s : List UInt8) (hl : s.length ≤ 1073741824) (R : Nat) (dp : Int) (hd0 : 0 ≤ dp) (hd1 : dp ≤ 63) (hGR : Gb R) (g : Nat) (HV : ∀ g', g' < g → ValC s g')
    (w : World) (tk : Tok) (many : Int) (hP : PRow w R s tk many) (hGl : Glb w) (hm0 : 0 ≤ many) (hm : many ≤ 4096) (hf : 2 * (4096 - many) + 2 ≤ g) :
    Calls Tryz.prog 54 #[.pointer (some ⟨R, 0, none⟩), .int .i64 dp] w (ManyPost 10 w R s (manyR s g false dp tk many)) := by
  have hR := hP.lt
  have HP := Lib.hid hP
  have HGL := Lib.hid hGl
  have HVV := Lib.hid HV
  clear hP hGl HV
  have hmf : ∀ (fn : Fn) (first cap : Array Value) (w : World), (Instr.makeFunc fn first cap).run Tryz.prog w = .ok (.func fn first cap) w := fun _ _ _ _ => rfl
  go_enter Tryz.func54, Tryz.ntmps54
  go_upto_region 2 with fail
  have h4 := alloc4 w (.cells #[.pointer (some ⟨R, 0, none⟩)] 58) (.cells #[.int .i64 dp] 3) (.cells zC.toArray 27) (.cells (outC 10 (.slice none 0 0) (.slice none 0 0)) 27)
  refine wp_named (fun wn => Below w.heap.size w wn ∧ wn.heap.size = w.heap.size + 4 ∧ wn.heap[w.heap.size]? = some (.cells #[.pointer (some ⟨R, 0, none⟩)] 58 (0, 0)) ∧ wn.heap[w.heap.size + 1]? = some (.cells #[.int .i64 dp] 3 (0, 0)) ∧ wn.heap[w.heap.size + 2]? = some (.cells zC.toArray 27 (0, 0)) ∧ wn.heap[w.heap.size + 3]? = some (.cells (outC 10 (.slice none 0 0) (.slice none 0 0)) 27 (0, 0))) ⟨by exact zw, by simp, h4.1, h4.2.1, h4.2.2.1, h4.2.2.2⟩ ?_
  clear h4
  rintro wn ⟨hb, hz, h0, h1, h2, h3⟩
  have hPn := HP.out.below (hb.mono (Nat.le_refl _))
  have c0 : wn.cell? ⟨w.heap.size, 0, none⟩ = some (.pointer (some ⟨R, 0, none⟩)) := cell_of_row _ _ _ _ _ _ h0
  have hJ0 : LJx 10 (w.heap.size + 3) (w.heap.size + 4) (listE w.heap.size R dp) [] [] wn := by
    refine ⟨_, _, _, _, fun p hp => ?_, h3, kids_nil _ _⟩
    simp only [listE, List.mem_cons, List.not_mem_nil, or_false] at hp
    rcases hp with rfl | rfl | rfl
    · exact h0
    · exact h1
    · exact h2
  have hGn : Glb wn := HGL.out.below hb (hGR.mono (Nat.le_of_lt hR))
  have hE := each_l s R w.heap.size g (dp + 1) (w.heap.size + 3) w.heap.size (w.heap.size + 1) (LJx 10 (w.heap.size + 3) (w.heap.size + 4) (listE w.heap.size R dp)) (fun ks acc W W' ht h => LJx.ok ⟨by omega, by omega, fun p hp => by have := listE_lt p hp; omega⟩ ks acc W W' ht h) hl hR hGR wn hGn
    (fun g' W t m ks acc hg hE h0 h1 h2 => list1_any s R w.heap.size w.heap.size (w.heap.size + 1) (w.heap.size + 3) (w.heap.size + 4) (listE w.heap.size R dp) dp hR (by omega) (by omega) (fun p hp => by have := listE_lt p hp; omega) (by simp [listE]) (by simp [listE]) hd0 hd1 hGR g' (HVV.out g' hg) wn W t m ks acc hE (by have := hE.f.size; omega) (hE.glb hGn hGR hR) h0 h1 h2)
    tk many g [] [] hPn hJ0 (by omega) (by simpa using hm0) (Nat.le_refl _) hm0 hm hf
  have HE : Hid (Calls Tryz.prog 89 #[.pointer (some ⟨R, 0, none⟩), .int .i64 4, .func (.func 90) #[] #[.pointer (some ⟨w.heap.size + 3, 0, none⟩), .pointer (some ⟨w.heap.size, 0, none⟩), .pointer (some ⟨w.heap.size + 1, 0, none⟩)]] wn (EachPost w.heap.size R s (LJx 10 (w.heap.size + 3) (w.heap.size + 4) (listE w.heap.size R dp)) wn (manyR s g false dp tk many))) := Lib.hid hE
  have HX := Lib.hid h2
  have HB := Lib.hid hb
  have HZ := Lib.hid hz
  clear hE hJ0 hGn hPn hb h0 h1 h2 h3 hz
  generalize manyR s g false dp tk many = res at *
  go_wp2_with fail
  refine HE.out.mono ?_
  rintro o w1 ⟨ht, hr⟩
  have hT : Touch [R] w w1 := by
    have h1 : Tch w.heap.size [R] w w1 := (Touch.quiet HB.out).tch (Nat.le_refl _) |>.trans ht
    exact h1.touch
  cases res with
  | error x =>
    obtain rfl := hr
    exact ⟨rfl, hT, rfl⟩
  | ok p =>
    obtain ⟨ks, l, t1, m⟩ := p
    obtain ⟨rfl, hp1, kv, lv, xs, bl, hj⟩ := hr
    obtain ⟨Ak, ck, rfl⟩ := owns_ptr hj.k.k
    obtain ⟨Al, cl, rfl⟩ := owns_ptr hj.k.r
    have hx : w1.heap[w.heap.size + 1 + 1]? = some (.cells zC.toArray 27 (0, 0)) := hj.e (w.heap.size + 2, _) (by simp [listE])
    have ho : w1.heap[w.heap.size + 1 + 1 + 1]? = some (.cells (outC 10 (.slice Ak ks.length ck) (.slice Al l.length cl)) 27 (0, 0)) := hj.o
    obtain ⟨n0, n1, n2, n3, n4, n5⟩ := cells6 ho
    obtain ⟨y0, y1, y2, y3, y4, y5⟩ := cells6 hx
    have f0 : w1.frozen? ⟨w.heap.size + 1 + 1, 0, none⟩ = false := frozen_of_row _ _ _ _ _ hx
    have f1 : w1.frozen? ⟨w.heap.size + 1 + 1, 1, none⟩ = false := frozen_of_row _ _ _ _ _ hx
    have f2 : w1.frozen? ⟨w.heap.size + 1 + 1, 2, none⟩ = false := frozen_of_row _ _ _ _ _ hx
    have f3 : w1.frozen? ⟨w.heap.size + 1 + 1, 3, none⟩ = false := frozen_of_row _ _ _ _ _ hx
    have f4 : w1.frozen? ⟨w.heap.size + 1 + 1, 4, none⟩ = false := frozen_of_row _ _ _ _ _ hx
    have f5 : w1.frozen? ⟨w.heap.size + 1 + 1, 5, none⟩ = false := frozen_of_row _ _ _ _ _ hx
    have HK := Lib.hid hj.k
    have HP1 := Lib.hid hp1
    have HT := Lib.hid hT
    clear hj hp1 hT ht hx ho HE HX HB HZ HP HGL HVV c0
    go_wp2_with fail
    have hoth : ∀ i, i ≠ w.heap.size + 1 + 1 → ((((((w1.setCell ⟨w.heap.size + 1 + 1, 0, none⟩ (.int .i64 10)).setCell ⟨w.heap.size + 1 + 1, 1, none⟩ (.int .i64 0)).setCell ⟨w.heap.size + 1 + 1, 2, none⟩ (.int .u64 0)).setCell ⟨w.heap.size + 1 + 1, 3, none⟩ (.string ⟨#[]⟩)).setCell ⟨w.heap.size + 1 + 1, 4, none⟩ (.slice Ak ks.length ck)).setCell ⟨w.heap.size + 1 + 1, 5, none⟩ (.slice Al l.length cl)).heap[i]? = w1.heap[i]? := by
      intro i hne
      rw [heap_setCell_other _ _ _ _ hne, heap_setCell_other _ _ _ _ hne, heap_setCell_other _ _ _ _ hne, heap_setCell_other _ _ _ _ hne, heap_setCell_other _ _ _ _ hne, heap_setCell_other _ _ _ _ hne]
    (refine bodyPost_ret (v := .agg #[.int .i64 10, .int .i64 0, .int .u64 0, .string ⟨#[]⟩, .slice Ak ks.length ck, .slice Al l.length cl]) (by simp [results, Tryz.results54, go_sem, *]) rfl ?_)
    refine ⟨six_over HT.out (Z := w.heap.size + 1 + 1) (by omega) _ _ _ _ _ _, HP1.out.same (hoth R (by omega)), _, rfl, (Kids.fresh HK.out (fun i hi => hoth i (by have := HK.out.ge i hi; omega)) _ _ _ _).mono (by omega)⟩
end Go.Proofs.YtccmhhmdenfecaaGreatDoor
