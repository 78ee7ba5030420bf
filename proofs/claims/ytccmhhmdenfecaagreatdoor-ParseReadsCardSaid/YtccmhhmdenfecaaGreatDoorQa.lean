/- The walks of tree.walk and tree.walked: an iterator over the nodes of a tree in memory. What tree.Check says of a tree, plain. The walk of tree.walk once more: every round is told which node it is handed. -/
import Derived.RangeFuncNested
import Derived.RangeFuncBound
import Derived.RangeFuncCalls
import Derived.RangeFuncLeaves
import Derived.Shelf.Abstract
import Derived.Shelf.RegionOpen
import Derived.WalkKit
import Derived.OwnWalkIn
import Derived.TacticsInMore
import Derived.LoopNIn
import Derived.LoopIn
import Derived.Test.YtccmhhmdenfecaaGreatDoorT0
import Derived.Test.YtccmhhmdenfecaaGreatDoorEa
import Derived.RangeFuncFrom
import Derived.Maps.AppendAt
namespace Go.Proofs.YtccmhhmdenfecaaGreatDoor
set_option linter.unusedVariables false
set_option linter.unusedSimpArgs false
section
open Go.RowKit Go.Shelf
attribute [local go_sem] Oper.semAt_some
theorem room_none {F : Fence} (hd : F.depth = none) (k : Nat) : F.room k := fun d h => by rw [hd] at h; cases h
theorem yield_any {F : Fence} (hd : F.depth = none) {m : Nat} (m' : Nat) {P : Program} {l : Nat} {args : Array Value} {W : World} {R : Ending → World → Prop} (h : YieldAt F m P l args W R) : YieldAt F m' P l args W R := by
  obtain ⟨fn, tmps, assign, body, hy, hR⟩ := h
  exact ⟨fn, tmps, assign, body, hy, hR.1, fun c cs _ => hR.2 c cs (room_none hd _)⟩
/-- What a round hands over: a level, a node's cells. -/
abbrev Vis := { x : Int × Array Value // 0 ≤ x.1 ∧ x.1 ≤ 1073741824 }
def visV (x : Vis) : Array Value := #[.int .i64 x.1.1, .agg x.1.2]
mutual
def levelsD : Int → DT → List Int
  | lv, .mk _ _ _ _ _ l => lv :: levelssD (lv + 1) l
def levelssD : Int → List DT → List Int
  | _, [] => []
  | lv, t :: ts => levelsD lv t ++ levelssD lv ts
end
mutual
theorem levels_len : ∀ (lv : Int) (T : DT), ((levelsD lv T).length : Int) = sizeD T
  | lv, .mk _ _ _ _ _ l => by
    rw [levelsD, sizeD, List.length_cons]
    have := levelss_len (lv + 1) l
    push_cast
    omega
theorem levelss_len : ∀ (lv : Int) (l : List DT), ((levelssD lv l).length : Int) = sizesD l
  | lv, [] => by rw [levelssD, sizesD]; rfl
  | lv, t :: ts => by
    rw [levelssD, sizesD, List.length_append]
    have := levels_len lv t
    have := levelss_len lv ts
    push_cast
    omega
end
mutual
theorem levels_max : ∀ (lv : Int) (T : DT) (d : Int), (levelsD lv T).foldl (fun d x => max d (x + 1)) d = max d (lv + depthD T)
  | lv, .mk _ _ _ _ _ l, d => by
    rw [levelsD, depthD, List.foldl_cons, levelss_max]
    have hn := depthsD_nonneg l
    have h0 : depthsD [] = 0 := by rw [depthsD]
    split
    · rename_i h; rw [h, h0]; omega
    · omega
theorem levelss_max : ∀ (lv : Int) (l : List DT) (d : Int), (levelssD lv l).foldl (fun d x => max d (x + 1)) d = if l = [] then d else max d (lv + depthsD l)
  | lv, [], d => by rw [levelssD]; rfl
  | lv, t :: ts, d => by
    rw [levelssD, depthsD, List.foldl_append, levels_max, levelss_max, if_neg (List.cons_ne_nil t ts)]
    split
    · rename_i h
      rw [h]
      have : depthsD [] = 0 := by rw [depthsD]
      have := depthD_pos t
      omega
    · omega
end
theorem levelss_append (lv : Int) : ∀ (a b : List DT), levelssD lv (a ++ b) = levelssD lv a ++ levelssD lv b
  | [], b => by rw [levelssD]; rfl
  | t :: ts, b => by rw [List.cons_append, levelssD, levelssD, levelss_append lv ts b, List.append_assoc]
/-- Every block of cells but one lies as it lay. -/
def KC (nb : Nat) (W W' : World) : Prop := ∀ k cur ty fr, k ≠ nb → W.heap[k]? = some (.cells cur ty fr) → W'.heap[k]? = some (.cells cur ty fr)
theorem KC.refl (nb : Nat) (W : World) : KC nb W W := fun _ _ _ _ _ h => h
theorem KC.trans {nb : Nat} {A B C : World} (h : KC nb A B) (k : KC nb B C) : KC nb A C := fun i cur ty fr hi hh => k i cur ty fr hi (h i cur ty fr hi hh)
theorem KC.alloc (nb : Nat) (W : World) (o : Obj) : KC nb W (W.alloc o) := fun k _ _ _ _ h => (Below.heap_alloc W o k (Array.getElem?_eq_some_iff.1 h).1).trans h
mutual
theorem NRep.atCells {w : World} : ∀ (T : DT) (cs : List Value) (bs : List Nat), NRep w T cs bs → ∀ i ∈ bs, ∃ cur ty fr, w.heap[i]? = some (.cells cur ty fr)
  | .mk kd n u s ks l, cs, bs, h => by
    rw [NRep] at h
    obtain ⟨kv, lv, xs, bl, h1, h2, h3, h4, rfl⟩ := h
    intro i hi
    simp only [List.mem_append, blkL, Option.mem_toList] at hi
    rcases hi with hi | hi | hi
    · rcases h2.2 with ⟨rfl, -⟩ | ⟨g, c, cur, rfl, -, hg, -⟩
      · cases hi
      · cases hi; exact ⟨_, _, _, hg⟩
    · rcases h3.2 with ⟨rfl, -⟩ | ⟨g, c, cur, rfl, -, hg, -⟩
      · cases hi
      · cases hi; exact ⟨_, _, _, hg⟩
    · exact NReps.atCells l xs bl h4 i hi
theorem NReps.atCells {w : World} : ∀ (l : List DT) (xs : List Value) (bs : List Nat), NReps w l xs bs → ∀ i ∈ bs, ∃ cur ty fr, w.heap[i]? = some (.cells cur ty fr)
  | [], xs, bs, h => by rw [NReps] at h; rw [h.2]; simp
  | t :: ts, xs, bs, h => by
    rw [NReps] at h
    obtain ⟨c, b, xs', bs', h1, h2, rfl, rfl⟩ := h
    intro i hi
    rcases List.mem_append.1 hi with hi | hi
    · exact NRep.atCells t c b h1 i hi
    · exact NReps.atCells ts xs' bs' h2 i hi
end
theorem NRep.kc {w w' : World} {nb : Nat} {T : DT} {cs : List Value} {bs : List Nat} (h : NRep w T cs bs) (hk : KC nb w w') (hn : nb ∉ bs) : NRep w' T cs bs :=
  h.same _ _ _ fun i hi => by
    obtain ⟨cur, ty, fr, hc⟩ := h.atCells _ _ _ i hi
    rw [hc]
    exact hk i cur ty fr (fun e => hn (e ▸ hi)) hc
theorem sizes_take : ∀ (l : List DT) (k : Nat) (h : k < l.length), sizesD (l.take k) + sizeD l[k] ≤ sizesD l ∧ depthD l[k] ≤ depthsD l
  | t :: ts, 0, _ => by
    rw [List.take_zero, sizesD, sizesD, depthsD]
    have := sizesD_nonneg ts
    simp only [List.getElem_cons_zero]
    omega
  | t :: ts, k + 1, h => by
    have := sizes_take ts k (by simpa using h)
    rw [List.take_succ_cons, sizesD, sizesD, depthsD]
    simp only [List.getElem_cons_succ]
    omega
theorem levelss_take (lv : Int) (l : List DT) (k : Nat) (h : k < l.length) : levelssD lv (l.take (k + 1)) = levelssD lv (l.take k) ++ levelsD lv l[k] := by
  rw [List.take_succ_eq_append_getElem h, levelss_append, levelssD, levelssD, List.append_nil]
/-- What tree.walk does at a tree: every node has come, in order, or a round has said 'no more'. -/
def WalkC (F : Fence) (l nb N : Nat) (J Jx : List Vis → World → Prop) (T : DT) : Prop := ∀ (n : Nat) (lv : Int) (x0 x1 x2 x3 x4 x5 : Value) (bs : List Nat) (pre : List Vis) (W : World),
  NRep W T [x0, x1, x2, x3, x4, x5] bs → nb ∉ bs → nb < W.heap.size → J pre W → (pre.length : Int) + sizeD T ≤ N → 0 ≤ lv → lv + depthD T ≤ 1073741824 →
    CallsIn F n Tryz.prog 66 #[.agg #[x0, x1, x2, x3, x4, x5], .int .i64 lv, .func (.yield l) #[] #[]] W fun e W' =>
      (e = .returned (.bool true) ∧ (∃ ys : List Vis, ys.map (fun x => x.1.1) = levelsD lv T ∧ J (pre ++ ys) W') ∧ KC nb W W' ∧ W.heap.size ≤ W'.heap.size) ∨ (e = .returned (.bool false) ∧ ∃ q, Jx (pre ++ q) W')
set_option maxRecDepth 100000 in
set_option maxHeartbeats 4000000 in
theorem walk_step (F : Fence) (hd : F.depth = none) (hf : F.fn 66) (hro : F.round = none) (l nb N : Nat) (J Jx : List Vis → World → Prop)
    (hJ : ∀ pre W W', J pre W → W.grownBy W' none → J pre W')
    (hY : ∀ m pre x W, J pre W → pre.length < N → YieldAt F m Tryz.prog l (visV x) W fun e W' =>
      (e = .returned (.bool true) ∧ J (pre ++ [x]) W' ∧ KC nb W W' ∧ W.heap.size ≤ W'.heap.size) ∨ (e = .returned (.bool false) ∧ Jx (pre ++ [x]) W'))
    (kd nn u : Int) (s : List UInt8) (ks : List (List UInt8)) (ts : List DT) (ih : ∀ t ∈ ts, WalkC F l nb N J Jx t) : WalkC F l nb N J Jx (.mk kd nn u s ks ts) := by
  intro n lv x0 x1 x2 x3 x4 x5 bs pre W hN hnb hnW hJ0 hlen h0 hdep
  have hdd : ∀ k : Nat, (F.depth.isSome = true → 1 ≤ k) := fun k h => by rw [hd] at h; cases h
  rw [depthD] at hdep
  rw [sizeD] at hlen
  have hdn := depthsD_nonneg ts
  have hsn := sizesD_nonneg ts
  have hlen0 : pre.length < N := by omega
  obtain ⟨x, hx⟩ : ∃ x : Vis, x.1 = (lv, #[x0, x1, x2, x3, x4, x5]) := ⟨⟨(lv, #[x0, x1, x2, x3, x4, x5]), h0, by show lv ≤ _; omega⟩, rfl⟩
  have hJ1 := hJ pre W (W.alloc (.cells #[x0, x1, x2, x3, x4, x5] 27)) hJ0 (World.grownBy_alloc W _ none)
  obtain ⟨fn, tmps, assign, body, hy, hR⟩ := hY (n - 1) pre x _ hJ1 hlen0
  have hvx : visV x = #[.int .i64 lv, .agg #[x0, x1, x2, x3, x4, x5]] := by unfold visV; rw [hx]
  rw [hvx] at hy
  refine callsIn_of_wp Tryz.func66 rfl hf ?_ hro
  simp only [Tryz.ntmps66, List.size_toArray, List.length_cons, List.length_nil, Nat.reduceAdd, Nat.reduceSub, Array.replicate_succ, Array.replicate_zero, List.push_toArray, List.append_toArray, List.nil_append, List.cons_append]
  gi_wp2
  refine hR.mono ?_
  clear hR hy hY
  rintro e W1 (⟨rfl, hJ2, hk2, hz2⟩ | ⟨rfl, hx2⟩)
  · have hN1 := Lib.hid ((hN.below ((Below.refl W.heap.size W).alloc (Nat.le_refl _) (.cells #[x0, x1, x2, x3, x4, x5] 27))).kc hk2 hnb)
    have hB := hk2 W.heap.size _ _ _ (by omega) (heap_alloc_new W _)
    have hkW := (KC.alloc nb W (.cells #[x0, x1, x2, x3, x4, x5] 27)).trans hk2
    obtain ⟨A, m, c, rfl⟩ := hN.last
    obtain ⟨⟨-, hm⟩, -⟩ := rep_kids hN
    have hmb := rep_bound hN
    have c5 : W1.cell? ⟨W.heap.size, 5, none⟩ = some (.slice A m c) := cell_of_row _ _ _ _ _ _ hB
    rw [← hm] at hmb
    have HM := Lib.hid hm
    have hsz : W.heap.size < W1.heap.size := by simp at hz2; omega
    clear hm hN hB hk2 hz2
    gi_wp2
    gi_loopw [17] (fun i wr => ∃ (k : Nat) (ys : List Vis), k ≤ m ∧ i = .int .i64 k ∧ ys.map (fun x => x.1.1) = levelssD (lv + 1) (ts.take k) ∧ J (pre ++ x :: ys) wr ∧ KC nb W1 wr ∧ W1.heap.size ≤ wr.heap.size) (fun i _ => m - (intOf i).toNat)
    case atStart => exact ⟨0, [], by omega, rfl, by rw [List.take_zero, levelssD]; rfl, hJ2, KC.refl _ _, Nat.le_refl _⟩
    case round =>
      obtain ⟨k, ys, hk, rfl, hys, hJr, hkr, hzr⟩ := hrel
      have hyl : (ys.length : Int) = sizesD (ts.take k) := by rw [← levelss_len (lv + 1), ← hys, List.length_map]
      by_cases h1 : k < m
      · have h1' : (k : Int) < (m : Int) := by omega
        have hkl : k < ts.length := by rw [← HM.out]; exact h1
        obtain ⟨g, rfl, hg, v0, v1, v2, v3, v4, v5, b, hNc, hbb, p0, p1, p2, p3, p4, p5⟩ := (rep_kids (hN1.out.kc hkr hnb)).2 wr (Below.refl _ _) k hkl
        obtain ⟨kd', nn', uu', ss', A', ma', ca', B', mb', cb', rfl, rfl, rfl, rfl, rfl, rfl⟩ := hNc.form2
        obtain ⟨z1, z2⟩ := sizes_take ts k hkl
        have e0 : (0 : Nat) + k * 6 = k * 6 := by omega
        have q1 : IntKind.i64.wrap (lv + 1) = lv + 1 := IntWalk.i64_in _ (by omega)
        have hJr2 := hJ _ wr (wr.alloc (.cells #[.int .i64 kd', .int .i64 nn', .int .u64 uu', .string ss', .slice A' ma' ca', .slice B' mb' cb'] 27)) hJr (World.grownBy_alloc wr _ none)
        have hC := Lib.hid (ih ts[k] (List.getElem_mem hkl) (n - 1) (lv + 1) _ _ _ _ _ _ b (pre ++ x :: ys) _ (hNc.below ((Below.refl wr.heap.size wr).alloc (Nat.le_refl _) (.cells #[.int .i64 kd', .int .i64 nn', .int .u64 uu', .string ss', .slice A' ma' ca', .slice B' mb' cb'] 27))) (fun h => hnb (hbb _ h)) (by simp; omega) hJr2 (by simp only [List.length_append, List.length_cons]; push_cast; omega) (by omega) (by omega))
        have HY := Lib.hid hys
        have HK := Lib.hid hkr
        have HL := Lib.hid (levelss_take (lv + 1) ts k hkl)
        clear hNc hbb hJr2 hJr hkr hys z1 z2 hyl hlen hdn hsn hdep
        gi_wp2_with ((try refine ⟨hdd _, ?_⟩); gi_at_call 66; refine hC.out.mono ?_; clear hC; rintro e W3 (⟨rfl, ⟨zs, hzs, hJ3⟩, hk3, hz3⟩ | ⟨rfl, q, hx3⟩))
        · go_roundw
          case rel => exact ⟨k + 1, ys ++ zs, by omega, by go_num, by rw [List.map_append, HY.out, hzs, HL.out], by simpa using hJ3, HK.out.trans ((KC.alloc _ _ _).trans hk3), by simp at hz3; omega⟩
          case measure => simp only [intOf]; omega
        · go_ret
          exact .inr ⟨rfl, x :: ys ++ q, by simpa using hx3⟩
      · have h1' : ¬ (k : Int) < (m : Int) := by omega
        have hkm : k = ts.length := by rw [← HM.out]; omega
        rw [hkm, List.take_length] at hys
        have HY := Lib.hid hys
        have HX := Lib.hid hx
        clear hys hx hyl hkm
        gi_wp2
        go_ret
        exact .inl ⟨rfl, ⟨x :: ys, by rw [List.map_cons, HY.out, HX.out, levelsD], hJr⟩, hkW.trans hkr, by omega⟩
  · gi_wp2
    go_ret
    exact .inr ⟨rfl, [x], hx2⟩
theorem walk_any (F : Fence) (hd : F.depth = none) (hf : F.fn 66) (hro : F.round = none) (l nb N : Nat) (J Jx : List Vis → World → Prop)
    (hJ : ∀ pre W W', J pre W → W.grownBy W' none → J pre W')
    (hY : ∀ m pre x W, J pre W → pre.length < N → YieldAt F m Tryz.prog l (visV x) W fun e W' =>
      (e = .returned (.bool true) ∧ J (pre ++ [x]) W' ∧ KC nb W W' ∧ W.heap.size ≤ W'.heap.size) ∨ (e = .returned (.bool false) ∧ Jx (pre ++ [x]) W')) (T : DT) : WalkC F l nb N J Jx T :=
  DT.byKids (fun kd nn u s ks ts ih => walk_step F hd hf hro l nb N J Jx hJ hY kd nn u s ks ts ih) T
def KS (nb : Nat) (W W' : World) : Prop := KC nb W W' ∧ W.heap.size ≤ W'.heap.size
theorem KS_t {nb : Nat} {A B C : World} (h : KS nb A B) (k : KS nb B C) : KS nb A C := ⟨h.1.trans k.1, Nat.le_trans h.2 k.2⟩
theorem KS_b {nb : Nat} (W : World) (l : Nat) (o o' : Obj) (h : W.heap[l]? = some o) (ho : o.isCells = false) : KS nb W (W.putObj l o') := by
  refine ⟨fun k cur ty fr hk hc => ?_, by simp⟩
  have hkl : k ≠ l := fun e => by
    subst e
    rw [hc] at h
    cases h
    cases ho
  exact (World.putObj_heap_other hkl).trans hc
set_option maxHeartbeats 2000000 in
theorem visits_stops (F : Fence) (hd : F.depth = none) (n : Nat) (h75 : F.fn 65) (hf : F.fn 66) (hro : F.round = none) (Bt nb N : Nat) (T : DT) (x0 x1 x2 x3 x4 x5 : Value) (bs : List Nat) (w : World)
    (hB : w.heap[Bt]? = some (.cells #[x0, x1, x2, x3, x4, x5] 27 (0, 0))) (hN : NRep w T [x0, x1, x2, x3, x4, x5] bs) (hnb : nb ∉ bs) (hnw : nb < w.heap.size) (hsz : sizeD T ≤ N) (hdp : depthD T ≤ 1073741824) :
    SeqStopsK F n Tryz.prog 65 #[.pointer (some ⟨Bt, 0, none⟩)] visV (KS nb) (fun ys => ys.map (fun x => x.1.1) = levelsD 0 T) (fun _ => True) N w := fun l J Jx W hW hJ hJx hY h0 => by
  have hdd : ∀ k : Nat, (F.depth.isSome = true → 1 ≤ k) := fun k h => by rw [hd] at h; cases h
  have hBW := (hW.block _ (Array.getElem?_eq_some_iff.1 hB).1).trans hB
  have hp := Lib.hid (walk_any F hd hf hro l nb N J Jx (fun pre A B hs hg => hJ pre A B none hs hg (fun r e => by cases e)) (fun m pre x A hj hl => yield_any hd m (hY pre x A hj hl)) T (n - 1) 0 x0 x1 x2 x3 x4 x5 bs [] W (hN.below hW) hnb (Nat.lt_of_lt_of_le hnw hW.size) h0 (by simpa using hsz) (by omega) (by omega))
  have c0 : W.cell? ⟨Bt, 0, none⟩ = some x0 := cell_of_row _ _ _ _ _ _ hBW
  have c1 : W.cell? ⟨Bt, 1, none⟩ = some x1 := cell_of_row _ _ _ _ _ _ hBW
  have c2 : W.cell? ⟨Bt, 2, none⟩ = some x2 := cell_of_row _ _ _ _ _ _ hBW
  have c3 : W.cell? ⟨Bt, 3, none⟩ = some x3 := cell_of_row _ _ _ _ _ _ hBW
  have c4 : W.cell? ⟨Bt, 4, none⟩ = some x4 := cell_of_row _ _ _ _ _ _ hBW
  have c5 : W.cell? ⟨Bt, 5, none⟩ = some x5 := cell_of_row _ _ _ _ _ _ hBW
  clear hBW hB hN hY h0
  refine callsIn_of_wp Tryz.func65 rfl h75 ?_ hro
  simp only [Tryz.ntmps65, List.size_toArray, List.length_cons, List.length_nil, Nat.reduceAdd, Nat.reduceSub, Array.replicate_succ, Array.replicate_zero, List.push_toArray, List.append_toArray, List.nil_append, List.cons_append]
  gi_wp2_with ((try refine ⟨hdd _, ?_⟩); gi_at_call 66; refine hp.out.mono ?_; clear hp; rintro e W1 (⟨rfl, ⟨ys, hys, hJ1⟩, -⟩ | ⟨rfl, q, hq⟩))
  · go_end0
    exact ⟨⟨_, rfl⟩, .inl ⟨ys, hys, by simpa using hJ1⟩⟩
  · go_end0
    exact ⟨⟨_, rfl⟩, .inr ⟨q, trivial, by simpa using hq⟩⟩
theorem walked_in (F : Fence) (n : Nat) (h41 : F.fn 42) (hro : F.round = none) (x0 x1 x2 x3 x4 x5 : Value) (w : World) :
    CallsIn F n Tryz.prog 42 #[.agg #[x0, x1, x2, x3, x4, x5]] w fun e w' => e = .returned (.func (.func 65) #[] #[.pointer (some ⟨w.heap.size, 0, none⟩)]) ∧ w' = w.alloc (.cells #[x0, x1, x2, x3, x4, x5] 27) := by
  refine callsIn_of_wp Tryz.func42 rfl h41 ?_ hro
  simp only [Tryz.ntmps42, List.size_toArray, List.length_cons, List.length_nil, Nat.reduceAdd, Nat.reduceSub, Array.replicate_succ, Array.replicate_zero, List.push_toArray, List.append_toArray, List.nil_append, List.cons_append]
  gi_wp2
  go_ret
  exact ⟨rfl, rfl⟩
end
section
section
mutual
def nodesD : Int → DT → List (Int × DT)
  | lv, .mk kd n u s ks l => (lv, .mk kd n u s ks l) :: nodessD (lv + 1) l
def nodessD : Int → List DT → List (Int × DT)
  | _, [] => []
  | lv, t :: ts => nodesD lv t ++ nodessD lv ts
end
mutual
theorem nodes_len : ∀ (lv : Int) (T : DT), ((nodesD lv T).length : Int) = sizeD T
  | lv, .mk _ _ _ _ _ l => by
    rw [nodesD, sizeD, List.length_cons]
    have := nodess_len (lv + 1) l
    push_cast
    omega
theorem nodess_len : ∀ (lv : Int) (l : List DT), ((nodessD lv l).length : Int) = sizesD l
  | lv, [] => by rw [nodessD, sizesD]; rfl
  | lv, t :: ts => by
    rw [nodessD, sizesD, List.length_append]
    have := nodes_len lv t
    have := nodess_len lv ts
    push_cast
    omega
end
mutual
theorem nodes_lv : ∀ (lv : Int) (T : DT) (x : Int × DT), x ∈ nodesD lv T → lv ≤ x.1 ∧ x.1 + depthD x.2 ≤ lv + depthD T ∧ 1 ≤ depthD x.2
  | lv, .mk kd n u s ks l, x, h => by
    rw [nodesD, List.mem_cons] at h
    have hn := depthsD_nonneg l
    rcases h with rfl | h
    · refine ⟨Int.le_refl _, Int.le_refl _, ?_⟩
      rw [depthD]; omega
    · have := nodess_lv (lv + 1) l x h
      rw [depthD]
      omega
theorem nodess_lv : ∀ (lv : Int) (l : List DT) (x : Int × DT), x ∈ nodessD lv l → lv ≤ x.1 ∧ x.1 + depthD x.2 ≤ lv + depthsD l ∧ 1 ≤ depthD x.2
  | lv, [], x, h => by rw [nodessD] at h; cases h
  | lv, t :: ts, x, h => by
    rw [nodessD, List.mem_append] at h
    rw [depthsD]
    rcases h with h | h
    · have := nodes_lv lv t x h; omega
    · have := nodess_lv lv ts x h; omega
end
def kdOf : DT → Int
  | .mk kd _ _ _ _ _ => kd
/-- The kind that a kind's children must have: 0 for any, -1 for none. -/
def partD (kd : Int) : Int := if kd = 10 ∨ kd = 17 then 0 else if kd = 11 ∨ kd = 15 then 3 else if kd = 12 ∨ kd = 16 then 4 else if kd = 13 then 5 else if kd = 14 then 2 else -1
def suchD : DT → Bool
  | .mk kd n u s ks l => decide (1 ≤ kd ∧ kd ≤ 17 ∧ ((kd = 2 ∨ kd = 3 ∨ kd = 8) ∨ n = 0) ∧ ((kd = 4 ∨ kd = 9) ∨ u = 0) ∧ ((kd = 5 ∨ kd = 6 ∨ kd = 7) ∨ s = []) ∧ (kd = 17 ∨ ks = []) ∧ (kd = 2 → n = 0 ∨ n = 1) ∧ (kd = 17 → ks.length = l.length) ∧ ((kd = 15 ∨ kd = 16) → 2 ≤ l.length ∧ l.length ≤ 4)) &&
      l.all fun x => decide (partD kd = 0 ∨ kdOf x = partD kd)
def keysE : List (List UInt8) → List (List UInt8) → Int
  | _, [] => 0
  | had, k :: r => if (0 : UInt8) ∈ k then 70 else if k ∈ had then 71 else keysE (k :: had) r
def keyedD : DT → Int
  | .mk kd _ _ s ks _ => if kd = 5 ∧ (0 : UInt8) ∈ s then 70 else keysE [] ks
def stepD (n lv : Int) (T : DT) : Int := if 4096 < n then 5 else if 64 ≤ lv then 61 else if suchD T = false then 60 else keyedD T
def foldE : Int → List (Int × DT) → Int
  | _, [] => 0
  | n, x :: r => if stepD (n + 1) x.1 x.2 ≠ 0 then stepD (n + 1) x.1 x.2 else foldE (n + 1) r
/-- tree.Check. -/
def chkD (T : DT) : Int := foldE 0 (nodesD 0 T)
/-- A valid tree whose keys ascend. -/
def Fine (T : DT) : Prop := suchD T = true ∧ keyedD T = 0
def ksOf : DT → List (List UInt8)
  | .mk _ _ _ _ ks _ => ks
mutual
def Good : DT → Prop
  | .mk kd n u s ks l => Fine (.mk kd n u s ks l) ∧ ks.Pairwise (fun a b => lessB a b = true) ∧ Goods l
def Goods : List DT → Prop
  | [] => True
  | t :: ts => Good t ∧ Goods ts
end
theorem Goods.append : ∀ {a : List DT} {t : DT}, Goods a → Good t → Goods (a ++ [t])
  | [], t, _, h => by rw [List.nil_append, Goods, Goods]; exact ⟨h, trivial⟩
  | x :: a, t, h, k => by rw [Goods] at h; rw [List.cons_append, Goods]; exact ⟨h.1, Goods.append h.2 k⟩
mutual
theorem good_nodes : ∀ (T : DT) (lv : Int), Good T → ∀ x ∈ nodesD lv T, Fine x.2
  | .mk kd n u s ks l, lv, h, x, hx => by
    rw [Good] at h
    rw [nodesD, List.mem_cons] at hx
    rcases hx with rfl | hx
    · exact h.1
    · exact goods_nodes l (lv + 1) h.2.2 x hx
theorem goods_nodes : ∀ (l : List DT) (lv : Int), Goods l → ∀ x ∈ nodessD lv l, Fine x.2
  | [], lv, _, x, hx => by rw [nodessD] at hx; cases hx
  | t :: ts, lv, h, x, hx => by
    rw [Goods] at h
    rw [nodessD, List.mem_append] at hx
    rcases hx with hx | hx
    · exact good_nodes t lv h.1 x hx
    · exact goods_nodes ts lv h.2 x hx
end
end
end
section
open Go.RowKit Go.Shelf
attribute [local go_sem] Oper.semAt_some
/-- What a round hands over: a level, a node, its cells as they lie in w0. -/
abbrev VisT (w0 : World) := { x : (Int × DT) × (Array Value × List Nat) // ((0 ≤ x.1.1 ∧ x.1.1 ≤ 1073741824) ∧ WfD x.1.2) ∧ NRep w0 x.1.2 x.2.1.toList x.2.2 }
def visT {w0 : World} (x : VisT w0) : Array Value := #[.int .i64 x.1.1.1, .agg x.1.2.1]
/-- What tree.walk does at a tree. -/
def WalkT (F : Fence) (l nb N : Nat) (w0 : World) (J Jx : List (VisT w0) → World → Prop) (T : DT) : Prop := ∀ (n : Nat) (lv : Int) (x0 x1 x2 x3 x4 x5 : Value) (bs : List Nat) (pre : List (VisT w0)) (W : World),
  NRep w0 T [x0, x1, x2, x3, x4, x5] bs → WfD T → (∀ i ∈ bs, W.heap[i]? = w0.heap[i]?) → nb ∉ bs → (∀ i ∈ bs, i < W.heap.size) → nb < W.heap.size → J pre W → (pre.length : Int) + sizeD T ≤ N → 0 ≤ lv → lv + depthD T ≤ 1073741824 →
    CallsIn F n Tryz.prog 66 #[.agg #[x0, x1, x2, x3, x4, x5], .int .i64 lv, .func (.yield l) #[] #[]] W fun e W' =>
      (e = .returned (.bool true) ∧ (∃ ys : List (VisT w0), ys.map (fun x => x.1.1) = nodesD lv T ∧ J (pre ++ ys) W') ∧ KC nb W W' ∧ W.heap.size ≤ W'.heap.size) ∨
      (e = .returned (.bool false) ∧ ∃ q : List (VisT w0), (∃ r, q.map (fun x => x.1.1) ++ r = nodesD lv T) ∧ Jx (pre ++ q) W')
end
end Go.Proofs.YtccmhhmdenfecaaGreatDoor
