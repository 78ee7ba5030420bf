/- gives, works. The walks of tree.walk and tree.walked: an iterator over the nodes of a tree in memory. The walks of tree.Size and tree.Deep: ranges over the iterator of nodes. The walk of VerifyWalk. -/
import Derived.Test.YtmpflnlajakibaaB6
import Derived.RangeFuncNested
import Derived.RangeFuncBound
import Derived.RangeFuncCalls
import Derived.RangeFuncLeaves
import Derived.Shelf.Abstract
import Derived.Shelf.RegionOpen
import Derived.WalkKit
import Derived.OwnWalkIn
import Derived.TacticsInMore
import Derived.LoopNIn
import Derived.LoopIn
import Derived.Test.YtmpflnlajakibaaCDk
import Derived.Test.YtmpflnlajakibaaWv
import Derived.RangeFuncFrom
import Derived.Maps.AppendAt
import Derived.Test.YtmpflnlajakibaaCD8
import Derived.Test.YtmpflnlajakibaaCD9
import Derived.Deep.RegionHeld3
namespace Go.Proofs.Ytmpflnlajakibaa
set_option linter.unusedVariables false
set_option linter.unusedSimpArgs false
section
open Go.RowKit
def givesB (D : List UInt8) (dp budget s a h e : Int) : Bool := decide (checkM D dp budget = ((s, a, h), e))
set_option maxHeartbeats 1000000 in
theorem gives_any (v : Value) (D : List UInt8) (w : World) (hv : Byt w v D) (dp budget s a h e : Int) (hb : budget ≤ 1073741824) :
    Calls Try.prog 17 #[v, .int .i64 dp, .int .i64 budget, .int .i64 s, .int .i64 a, .int .i64 h, .int .i64 e] w fun en w' => en = .returned (.bool (givesB D dp budget s a h e)) ∧ Below w.heap.size w w' := by
  have Hv := Lib.hid hv
  clear hv
  unfold givesB
  obtain ⟨⟨⟨x1, x2, x3⟩, x4⟩, hx⟩ : ∃ x, checkM D dp budget = x := ⟨_, rfl⟩
  have HC := Lib.hid (fun W (hW : Byt W v D) => check_byt v D W hW dp budget hb)
  rw [hx] at HC
  rw [hx]
  clear hx
  simp only [repV] at HC
  go_enter Try.func17, Try.ntmps17
  go_wp2_with (go_at_call 12; refine (HC.out _ (Hv.out.below zw)).mono ?_; rintro e w1 ⟨rfl, hb1⟩; obtain ⟨hc1, hf1, hl1⟩ := bcell hb1; (try simp only [zdz] at hc1 hf1 hl1); have hz1 := hb1.size; (try simp only [zsz] at hz1); (try have g0 : w.heap.size < w1.heap.size := by omega); (try have g1 : w.heap.size + 1 < w1.heap.size := by omega); (try have g2 : w.heap.size + 2 < w1.heap.size := by omega); (try have gb : b < w1.heap.size := by omega); (try have g3 : w.heap.size + 3 < w1.heap.size := by omega); (try have hbb : Below w.heap.size w w1 := zw); (try obtain ⟨hco, hfo, _⟩ := bcell hbb); (try have hb1 := hb1))
  all_goals go_returns
  all_goals exact ⟨by simp [*, Bool.beq_eq_decide_eq], by exact zw⟩
set_option maxRecDepth 100000 in
theorem ex_gives : givesB exD 64 99 9 0 2 0 = true ∧ givesB exD 64 9 9 0 2 0 = true ∧ givesB exD 64 8 8 11 0 290 = true ∧ givesB exD 64 3 2 5 0 290 = true ∧ givesB exD 64 0 0 14 0 290 = true ∧ givesB exD 1 99 8 10 0 61 = true ∧
    givesB [4, 1] 64 9 0 0 0 210 = true ∧ givesB [5, 12, 1] 64 9 0 1 0 20 = true ∧ givesB exD6 64 99 5 6 0 215 = true ∧ givesB [0, 2, 1, 2, 40, 40, 4, 40, 1] 64 99 3 0 2 0 = true := by
  decide +kernel
theorem gives_ok (v : Value) (D : List UInt8) (w : World) (hv : Byt w v D) (dp budget s a h e : Int) (hb : budget ≤ 1073741824) (hg : givesB D dp budget s a h e = true) :
    Calls Try.prog 17 #[v, .int .i64 dp, .int .i64 budget, .int .i64 s, .int .i64 a, .int .i64 h, .int .i64 e] w fun en w' => en = .returned (.bool true) ∧ Below w.heap.size w w' := by
  have := gives_any v D w hv dp budget s a h e hb
  rwa [hg] at this
theorem Doc.byt {w : World} {b o cap n : Nat} {L : List UInt8} (h : Doc w b o n cap L) : Byt w (.slice (some ⟨b, o, none⟩) n cap) L := by
  obtain rfl := h.len
  exact .inr ⟨b, o, cap, rfl, h⟩
set_option maxHeartbeats 4000000 in
set_option maxRecDepth 100000 in
theorem works_any (w : World) : Calls Try.prog 15 #[] w fun e w' => e = .returned (.bool true) ∧ Below w.heap.size w w' := by
  obtain ⟨g1, g2, g3, g4, g5, g6, g7, g8, g9, g10⟩ := ex_gives
  have G1 := Lib.hid g1
  have G2 := Lib.hid g2
  have G3 := Lib.hid g3
  have G4 := Lib.hid g4
  have G5 := Lib.hid g5
  have G6 := Lib.hid g6
  have G7 := Lib.hid g7
  have G8 := Lib.hid g8
  have G9 := Lib.hid g9
  have G10 := Lib.hid g10
  clear g1 g2 g3 g4 g5 g6 g7 g8 g9 g10
  go_enter Try.func15, Try.ntmps15
  go_wp2_with fail
  refine (example_0 _).mono ?_; rintro e w1 ⟨⟨rfl, hd⟩, hb1⟩; have hz1 := hb1.size; (try simp only [World.size_alloc] at hz1)
  go_upto_region 2 with (go_at_call 18; refine (example_0 _).mono ?_; rintro e w1 ⟨⟨rfl, hd⟩, hb1⟩)
  go_wp2_with fail
  refine (gives_ok _ exD _ (hd.byt.below zw) 64 99 9 0 2 0 (by decide) G1.out).mono ?_; rintro e w2 ⟨rfl, hb2⟩; have hz2 := hb2.size; (try simp only [World.size_alloc] at hz2)
  go_wp2_with fail
  refine (gives_ok _ exD _ (hd.byt.below zw) 64 9 9 0 2 0 (by decide) G2.out).mono ?_; rintro e w3 ⟨rfl, hb3⟩; have hz3 := hb3.size; (try simp only [World.size_alloc] at hz3)
  go_wp2_with fail
  refine (gives_ok _ exD _ (hd.byt.below zw) 64 8 8 11 0 290 (by decide) G3.out).mono ?_; rintro e w4 ⟨rfl, hb4⟩; have hz4 := hb4.size; (try simp only [World.size_alloc] at hz4)
  go_wp2_with fail
  refine (gives_ok _ exD _ (hd.byt.below zw) 64 3 2 5 0 290 (by decide) G4.out).mono ?_; rintro e w5 ⟨rfl, hb5⟩; have hz5 := hb5.size; (try simp only [World.size_alloc] at hz5)
  go_wp2_with fail
  refine (gives_ok _ exD _ (hd.byt.below zw) 64 0 0 14 0 290 (by decide) G5.out).mono ?_; rintro e w6 ⟨rfl, hb6⟩; have hz6 := hb6.size; (try simp only [World.size_alloc] at hz6)
  go_wp2_with fail
  refine (gives_ok _ exD _ (hd.byt.below zw) 1 99 8 10 0 61 (by decide) G6.out).mono ?_; rintro e w7 ⟨rfl, hb7⟩; have hz7 := hb7.size; (try simp only [World.size_alloc] at hz7)
  go_wp2_with fail
  refine (gives_ok _ [4, 1] _ ((doc_row (heap_alloc_new _ _) rfl (by decide)).byt) 64 9 0 0 0 210 (by decide) G7.out).mono ?_; rintro e w8 ⟨rfl, hb8⟩; have hz8 := hb8.size; (try simp only [World.size_alloc] at hz8)
  go_wp2_with fail
  refine (gives_ok _ [5, 12, 1] _ ((doc_row (heap_alloc_new _ _) rfl (by decide)).byt) 64 9 0 1 0 20 (by decide) G8.out).mono ?_; rintro e w9 ⟨rfl, hb9⟩; have hz9 := hb9.size; (try simp only [World.size_alloc] at hz9)
  go_wp2_with fail
  refine (example_6 _).mono ?_; rintro e w10 ⟨⟨rfl, hd6⟩, hb10⟩; have hz10 := hb10.size; (try simp only [World.size_alloc] at hz10)
  go_wp2_with fail
  refine (gives_ok _ exD6 _ (hd6.byt) 64 99 5 6 0 215 (by decide) G9.out).mono ?_; rintro e w11 ⟨rfl, hb11⟩; have hz11 := hb11.size; (try simp only [World.size_alloc] at hz11)
  go_wp2_with fail
  refine (gives_ok _ [0, 2, 1, 2, 40, 40, 4, 40, 1] _ ((doc_row (heap_alloc_new _ _) rfl (by decide)).byt) 64 99 3 0 2 0 (by decide) G10.out).mono ?_; rintro e w12 ⟨rfl, hb12⟩; have hz12 := hb12.size; (try simp only [World.size_alloc] at hz12)
  go_wp2_with fail
  go_returns
  exact ⟨rfl, by exact zw⟩
end
section
open Go.RowKit Go.Shelf
attribute [local go_sem] Oper.semAt_some
theorem room_none {F : Fence} (hd : F.depth = none) (k : Nat) : F.room k := fun d h => by rw [hd] at h; cases h
theorem yield_any {F : Fence} (hd : F.depth = none) {m : Nat} (m' : Nat) {P : Program} {l : Nat} {args : Array Value} {W : World} {R : Ending → World → Prop} (h : YieldAt F m P l args W R) : YieldAt F m' P l args W R := by
  obtain ⟨fn, tmps, assign, body, hy, hR⟩ := h
  exact ⟨fn, tmps, assign, body, hy, hR.1, fun c cs _ => hR.2 c cs (room_none hd _)⟩
/-- What a round hands over: a level, a node's cells. -/
abbrev Vis := { x : Int × Array Value // 0 ≤ x.1 ∧ x.1 ≤ 1073741824 }
def visV (x : Vis) : Array Value := #[.int .i64 x.1.1, .agg x.1.2]
mutual
def levelsD : Int → DT → List Int
  | lv, .mk _ _ _ _ _ l => lv :: levelssD (lv + 1) l
def levelssD : Int → List DT → List Int
  | _, [] => []
  | lv, t :: ts => levelsD lv t ++ levelssD lv ts
end
mutual
theorem levels_len : ∀ (lv : Int) (T : DT), ((levelsD lv T).length : Int) = sizeD T
  | lv, .mk _ _ _ _ _ l => by
    rw [levelsD, sizeD, List.length_cons]
    have := levelss_len (lv + 1) l
    push_cast
    omega
theorem levelss_len : ∀ (lv : Int) (l : List DT), ((levelssD lv l).length : Int) = sizesD l
  | lv, [] => by rw [levelssD, sizesD]; rfl
  | lv, t :: ts => by
    rw [levelssD, sizesD, List.length_append]
    have := levels_len lv t
    have := levelss_len lv ts
    push_cast
    omega
end
mutual
theorem levels_max : ∀ (lv : Int) (T : DT) (d : Int), (levelsD lv T).foldl (fun d x => max d (x + 1)) d = max d (lv + depthD T)
  | lv, .mk _ _ _ _ _ l, d => by
    rw [levelsD, depthD, List.foldl_cons, levelss_max]
    have hn := depthsD_nonneg l
    have h0 : depthsD [] = 0 := by rw [depthsD]
    split
    · rename_i h; rw [h, h0]; omega
    · omega
theorem levelss_max : ∀ (lv : Int) (l : List DT) (d : Int), (levelssD lv l).foldl (fun d x => max d (x + 1)) d = if l = [] then d else max d (lv + depthsD l)
  | lv, [], d => by rw [levelssD]; rfl
  | lv, t :: ts, d => by
    rw [levelssD, depthsD, List.foldl_append, levels_max, levelss_max, if_neg (List.cons_ne_nil t ts)]
    split
    · rename_i h
      rw [h]
      have : depthsD [] = 0 := by rw [depthsD]
      have := depthD_pos t
      omega
    · omega
end
theorem levelss_append (lv : Int) : ∀ (a b : List DT), levelssD lv (a ++ b) = levelssD lv a ++ levelssD lv b
  | [], b => by rw [levelssD]; rfl
  | t :: ts, b => by rw [List.cons_append, levelssD, levelssD, levelss_append lv ts b, List.append_assoc]
/-- Every block of cells but one lies as it lay. -/
def KC (nb : Nat) (W W' : World) : Prop := ∀ k cur ty fr, k ≠ nb → W.heap[k]? = some (.cells cur ty fr) → W'.heap[k]? = some (.cells cur ty fr)
theorem KC.refl (nb : Nat) (W : World) : KC nb W W := fun _ _ _ _ _ h => h
theorem KC.trans {nb : Nat} {A B C : World} (h : KC nb A B) (k : KC nb B C) : KC nb A C := fun i cur ty fr hi hh => k i cur ty fr hi (h i cur ty fr hi hh)
theorem KC.alloc (nb : Nat) (W : World) (o : Obj) : KC nb W (W.alloc o) := fun k _ _ _ _ h => (Below.heap_alloc W o k (Array.getElem?_eq_some_iff.1 h).1).trans h
mutual
theorem NRep.atCells {w : World} : ∀ (T : DT) (cs : List Value) (bs : List Nat), NRep w T cs bs → ∀ i ∈ bs, ∃ cur ty fr, w.heap[i]? = some (.cells cur ty fr)
  | .mk kd n u s ks l, cs, bs, h => by
    rw [NRep] at h
    obtain ⟨kv, lv, xs, bl, h1, h2, h3, h4, rfl⟩ := h
    intro i hi
    simp only [List.mem_append, blkL, Option.mem_toList] at hi
    rcases hi with hi | hi | hi
    · rcases h2.2 with ⟨rfl, -⟩ | ⟨g, c, cur, rfl, -, hg, -⟩
      · cases hi
      · cases hi; exact ⟨_, _, _, hg⟩
    · rcases h3.2 with ⟨rfl, -⟩ | ⟨g, c, cur, rfl, -, hg, -⟩
      · cases hi
      · cases hi; exact ⟨_, _, _, hg⟩
    · exact NReps.atCells l xs bl h4 i hi
theorem NReps.atCells {w : World} : ∀ (l : List DT) (xs : List Value) (bs : List Nat), NReps w l xs bs → ∀ i ∈ bs, ∃ cur ty fr, w.heap[i]? = some (.cells cur ty fr)
  | [], xs, bs, h => by rw [NReps] at h; rw [h.2]; simp
  | t :: ts, xs, bs, h => by
    rw [NReps] at h
    obtain ⟨c, b, xs', bs', h1, h2, rfl, rfl⟩ := h
    intro i hi
    rcases List.mem_append.1 hi with hi | hi
    · exact NRep.atCells t c b h1 i hi
    · exact NReps.atCells ts xs' bs' h2 i hi
end
theorem NRep.kc {w w' : World} {nb : Nat} {T : DT} {cs : List Value} {bs : List Nat} (h : NRep w T cs bs) (hk : KC nb w w') (hn : nb ∉ bs) : NRep w' T cs bs :=
  h.same _ _ _ fun i hi => by
    obtain ⟨cur, ty, fr, hc⟩ := h.atCells _ _ _ i hi
    rw [hc]
    exact hk i cur ty fr (fun e => hn (e ▸ hi)) hc
theorem sizes_take : ∀ (l : List DT) (k : Nat) (h : k < l.length), sizesD (l.take k) + sizeD l[k] ≤ sizesD l ∧ depthD l[k] ≤ depthsD l
  | t :: ts, 0, _ => by
    rw [List.take_zero, sizesD, sizesD, depthsD]
    have := sizesD_nonneg ts
    simp only [List.getElem_cons_zero]
    omega
  | t :: ts, k + 1, h => by
    have := sizes_take ts k (by simpa using h)
    rw [List.take_succ_cons, sizesD, sizesD, depthsD]
    simp only [List.getElem_cons_succ]
    omega
theorem levelss_take (lv : Int) (l : List DT) (k : Nat) (h : k < l.length) : levelssD lv (l.take (k + 1)) = levelssD lv (l.take k) ++ levelsD lv l[k] := by
  rw [List.take_succ_eq_append_getElem h, levelss_append, levelssD, levelssD, List.append_nil]
/-- What tree.walk does at a tree: every node has come, in order, or a round has said 'no more'. -/
def WalkC (F : Fence) (l nb N : Nat) (J Jx : List Vis → World → Prop) (T : DT) : Prop := ∀ (n : Nat) (lv : Int) (x0 x1 x2 x3 x4 x5 : Value) (bs : List Nat) (pre : List Vis) (W : World),
  NRep W T [x0, x1, x2, x3, x4, x5] bs → nb ∉ bs → nb < W.heap.size → J pre W → (pre.length : Int) + sizeD T ≤ N → 0 ≤ lv → lv + depthD T ≤ 1073741824 →
    CallsIn F n Try.prog 76 #[.agg #[x0, x1, x2, x3, x4, x5], .int .i64 lv, .func (.yield l) #[] #[]] W fun e W' =>
      (e = .returned (.bool true) ∧ (∃ ys : List Vis, ys.map (fun x => x.1.1) = levelsD lv T ∧ J (pre ++ ys) W') ∧ KC nb W W' ∧ W.heap.size ≤ W'.heap.size) ∨ (e = .returned (.bool false) ∧ ∃ q, Jx (pre ++ q) W')
set_option maxRecDepth 100000 in
set_option maxHeartbeats 4000000 in
theorem walk_step (F : Fence) (hd : F.depth = none) (hf : F.fn 76) (hro : F.round = none) (l nb N : Nat) (J Jx : List Vis → World → Prop)
    (hJ : ∀ pre W W', J pre W → W.grownBy W' none → J pre W')
    (hY : ∀ m pre x W, J pre W → pre.length < N → YieldAt F m Try.prog l (visV x) W fun e W' =>
      (e = .returned (.bool true) ∧ J (pre ++ [x]) W' ∧ KC nb W W' ∧ W.heap.size ≤ W'.heap.size) ∨ (e = .returned (.bool false) ∧ Jx (pre ++ [x]) W'))
    (kd nn u : Int) (s : List UInt8) (ks : List (List UInt8)) (ts : List DT) (ih : ∀ t ∈ ts, WalkC F l nb N J Jx t) : WalkC F l nb N J Jx (.mk kd nn u s ks ts) := by
  intro n lv x0 x1 x2 x3 x4 x5 bs pre W hN hnb hnW hJ0 hlen h0 hdep
  have hdd : ∀ k : Nat, (F.depth.isSome = true → 1 ≤ k) := fun k h => by rw [hd] at h; cases h
  rw [depthD] at hdep
  rw [sizeD] at hlen
  have hdn := depthsD_nonneg ts
  have hsn := sizesD_nonneg ts
  have hlen0 : pre.length < N := by omega
  obtain ⟨x, hx⟩ : ∃ x : Vis, x.1 = (lv, #[x0, x1, x2, x3, x4, x5]) := ⟨⟨(lv, #[x0, x1, x2, x3, x4, x5]), h0, by show lv ≤ _; omega⟩, rfl⟩
  have hJ1 := hJ pre W (W.alloc (.cells #[x0, x1, x2, x3, x4, x5] 44)) hJ0 (World.grownBy_alloc W _ none)
  obtain ⟨fn, tmps, assign, body, hy, hR⟩ := hY (n - 1) pre x _ hJ1 hlen0
  have hvx : visV x = #[.int .i64 lv, .agg #[x0, x1, x2, x3, x4, x5]] := by unfold visV; rw [hx]
  rw [hvx] at hy
  refine callsIn_of_wp Try.func76 rfl hf ?_ hro
  simp only [Try.ntmps76, List.size_toArray, List.length_cons, List.length_nil, Nat.reduceAdd, Nat.reduceSub, Array.replicate_succ, Array.replicate_zero, List.push_toArray, List.append_toArray, List.nil_append, List.cons_append]
  gi_wp2
  refine hR.mono ?_
  clear hR hy hY
  rintro e W1 (⟨rfl, hJ2, hk2, hz2⟩ | ⟨rfl, hx2⟩)
  · have hN1 := Lib.hid ((hN.below ((Below.refl W.heap.size W).alloc (Nat.le_refl _) (.cells #[x0, x1, x2, x3, x4, x5] 44))).kc hk2 hnb)
    have hB := hk2 W.heap.size _ _ _ (by omega) (heap_alloc_new W _)
    have hkW := (KC.alloc nb W (.cells #[x0, x1, x2, x3, x4, x5] 44)).trans hk2
    obtain ⟨A, m, c, rfl⟩ := hN.last
    obtain ⟨⟨-, hm⟩, -⟩ := rep_kids hN
    have hmb := rep_bound hN
    have c5 : W1.cell? ⟨W.heap.size, 5, none⟩ = some (.slice A m c) := cell_of_row _ _ _ _ _ _ hB
    rw [← hm] at hmb
    have HM := Lib.hid hm
    have hsz : W.heap.size < W1.heap.size := by simp at hz2; omega
    clear hm hN hB hk2 hz2
    gi_wp2
    gi_loopw [17] (fun i wr => ∃ (k : Nat) (ys : List Vis), k ≤ m ∧ i = .int .i64 k ∧ ys.map (fun x => x.1.1) = levelssD (lv + 1) (ts.take k) ∧ J (pre ++ x :: ys) wr ∧ KC nb W1 wr ∧ W1.heap.size ≤ wr.heap.size) (fun i _ => m - (intOf i).toNat)
    case atStart => exact ⟨0, [], by omega, rfl, by rw [List.take_zero, levelssD]; rfl, hJ2, KC.refl _ _, Nat.le_refl _⟩
    case round =>
      obtain ⟨k, ys, hk, rfl, hys, hJr, hkr, hzr⟩ := hrel
      have hyl : (ys.length : Int) = sizesD (ts.take k) := by rw [← levelss_len (lv + 1), ← hys, List.length_map]
      by_cases h1 : k < m
      · have h1' : (k : Int) < (m : Int) := by omega
        have hkl : k < ts.length := by rw [← HM.out]; exact h1
        obtain ⟨g, rfl, hg, v0, v1, v2, v3, v4, v5, b, hNc, hbb, p0, p1, p2, p3, p4, p5⟩ := (rep_kids (hN1.out.kc hkr hnb)).2 wr (Below.refl _ _) k hkl
        obtain ⟨kd', nn', uu', ss', A', ma', ca', B', mb', cb', rfl, rfl, rfl, rfl, rfl, rfl⟩ := hNc.form2
        obtain ⟨z1, z2⟩ := sizes_take ts k hkl
        have e0 : (0 : Nat) + k * 6 = k * 6 := by omega
        have q1 : IntKind.i64.wrap (lv + 1) = lv + 1 := IntWalk.i64_in _ (by omega)
        have hJr2 := hJ _ wr (wr.alloc (.cells #[.int .i64 kd', .int .i64 nn', .int .u64 uu', .string ss', .slice A' ma' ca', .slice B' mb' cb'] 44)) hJr (World.grownBy_alloc wr _ none)
        have hC := Lib.hid (ih ts[k] (List.getElem_mem hkl) (n - 1) (lv + 1) _ _ _ _ _ _ b (pre ++ x :: ys) _ (hNc.below ((Below.refl wr.heap.size wr).alloc (Nat.le_refl _) (.cells #[.int .i64 kd', .int .i64 nn', .int .u64 uu', .string ss', .slice A' ma' ca', .slice B' mb' cb'] 44))) (fun h => hnb (hbb _ h)) (by simp; omega) hJr2 (by simp only [List.length_append, List.length_cons]; push_cast; omega) (by omega) (by omega))
        have HY := Lib.hid hys
        have HK := Lib.hid hkr
        have HL := Lib.hid (levelss_take (lv + 1) ts k hkl)
        clear hNc hbb hJr2 hJr hkr hys z1 z2 hyl hlen hdn hsn hdep
        gi_wp2_with ((try refine ⟨hdd _, ?_⟩); gi_at_call 76; refine hC.out.mono ?_; clear hC; rintro e W3 (⟨rfl, ⟨zs, hzs, hJ3⟩, hk3, hz3⟩ | ⟨rfl, q, hx3⟩))
        · go_roundw
          case rel => exact ⟨k + 1, ys ++ zs, by omega, by go_num, by rw [List.map_append, HY.out, hzs, HL.out], by simpa using hJ3, HK.out.trans ((KC.alloc _ _ _).trans hk3), by simp at hz3; omega⟩
          case measure => simp only [intOf]; omega
        · go_ret
          exact .inr ⟨rfl, x :: ys ++ q, by simpa using hx3⟩
      · have h1' : ¬ (k : Int) < (m : Int) := by omega
        have hkm : k = ts.length := by rw [← HM.out]; omega
        rw [hkm, List.take_length] at hys
        have HY := Lib.hid hys
        have HX := Lib.hid hx
        clear hys hx hyl hkm
        gi_wp2
        go_ret
        exact .inl ⟨rfl, ⟨x :: ys, by rw [List.map_cons, HY.out, HX.out, levelsD], hJr⟩, hkW.trans hkr, by omega⟩
  · gi_wp2
    go_ret
    exact .inr ⟨rfl, [x], hx2⟩
theorem walk_any (F : Fence) (hd : F.depth = none) (hf : F.fn 76) (hro : F.round = none) (l nb N : Nat) (J Jx : List Vis → World → Prop)
    (hJ : ∀ pre W W', J pre W → W.grownBy W' none → J pre W')
    (hY : ∀ m pre x W, J pre W → pre.length < N → YieldAt F m Try.prog l (visV x) W fun e W' =>
      (e = .returned (.bool true) ∧ J (pre ++ [x]) W' ∧ KC nb W W' ∧ W.heap.size ≤ W'.heap.size) ∨ (e = .returned (.bool false) ∧ Jx (pre ++ [x]) W')) (T : DT) : WalkC F l nb N J Jx T :=
  DT.byKids (fun kd nn u s ks ts ih => walk_step F hd hf hro l nb N J Jx hJ hY kd nn u s ks ts ih) T
def KS (nb : Nat) (W W' : World) : Prop := KC nb W W' ∧ W.heap.size ≤ W'.heap.size
theorem KS_t {nb : Nat} {A B C : World} (h : KS nb A B) (k : KS nb B C) : KS nb A C := ⟨h.1.trans k.1, Nat.le_trans h.2 k.2⟩
theorem KS_b {nb : Nat} (W : World) (l : Nat) (o o' : Obj) (h : W.heap[l]? = some o) (ho : o.isCells = false) : KS nb W (W.putObj l o') := by
  refine ⟨fun k cur ty fr hk hc => ?_, by simp⟩
  have hkl : k ≠ l := fun e => by
    subst e
    rw [hc] at h
    cases h
    cases ho
  exact (World.putObj_heap_other hkl).trans hc
set_option maxHeartbeats 2000000 in
theorem visits_stops (F : Fence) (hd : F.depth = none) (n : Nat) (h75 : F.fn 75) (hf : F.fn 76) (hro : F.round = none) (Bt nb N : Nat) (T : DT) (x0 x1 x2 x3 x4 x5 : Value) (bs : List Nat) (w : World)
    (hB : w.heap[Bt]? = some (.cells #[x0, x1, x2, x3, x4, x5] 44 (0, 0))) (hN : NRep w T [x0, x1, x2, x3, x4, x5] bs) (hnb : nb ∉ bs) (hnw : nb < w.heap.size) (hsz : sizeD T ≤ N) (hdp : depthD T ≤ 1073741824) :
    SeqStopsK F n Try.prog 75 #[.pointer (some ⟨Bt, 0, none⟩)] visV (KS nb) (fun ys => ys.map (fun x => x.1.1) = levelsD 0 T) (fun _ => True) N w := fun l J Jx W hW hJ hJx hY h0 => by
  have hdd : ∀ k : Nat, (F.depth.isSome = true → 1 ≤ k) := fun k h => by rw [hd] at h; cases h
  have hBW := (hW.block _ (Array.getElem?_eq_some_iff.1 hB).1).trans hB
  have hp := Lib.hid (walk_any F hd hf hro l nb N J Jx (fun pre A B hs hg => hJ pre A B none hs hg (fun r e => by cases e)) (fun m pre x A hj hl => yield_any hd m (hY pre x A hj hl)) T (n - 1) 0 x0 x1 x2 x3 x4 x5 bs [] W (hN.below hW) hnb (Nat.lt_of_lt_of_le hnw hW.size) h0 (by simpa using hsz) (by omega) (by omega))
  have c0 : W.cell? ⟨Bt, 0, none⟩ = some x0 := cell_of_row _ _ _ _ _ _ hBW
  have c1 : W.cell? ⟨Bt, 1, none⟩ = some x1 := cell_of_row _ _ _ _ _ _ hBW
  have c2 : W.cell? ⟨Bt, 2, none⟩ = some x2 := cell_of_row _ _ _ _ _ _ hBW
  have c3 : W.cell? ⟨Bt, 3, none⟩ = some x3 := cell_of_row _ _ _ _ _ _ hBW
  have c4 : W.cell? ⟨Bt, 4, none⟩ = some x4 := cell_of_row _ _ _ _ _ _ hBW
  have c5 : W.cell? ⟨Bt, 5, none⟩ = some x5 := cell_of_row _ _ _ _ _ _ hBW
  clear hBW hB hN hY h0
  refine callsIn_of_wp Try.func75 rfl h75 ?_ hro
  simp only [Try.ntmps75, List.size_toArray, List.length_cons, List.length_nil, Nat.reduceAdd, Nat.reduceSub, Array.replicate_succ, Array.replicate_zero, List.push_toArray, List.append_toArray, List.nil_append, List.cons_append]
  gi_wp2_with ((try refine ⟨hdd _, ?_⟩); gi_at_call 76; refine hp.out.mono ?_; clear hp; rintro e W1 (⟨rfl, ⟨ys, hys, hJ1⟩, -⟩ | ⟨rfl, q, hq⟩))
  · go_end0
    exact ⟨⟨_, rfl⟩, .inl ⟨ys, hys, by simpa using hJ1⟩⟩
  · go_end0
    exact ⟨⟨_, rfl⟩, .inr ⟨q, trivial, by simpa using hq⟩⟩
theorem walked_in (F : Fence) (n : Nat) (h41 : F.fn 41) (hro : F.round = none) (x0 x1 x2 x3 x4 x5 : Value) (w : World) :
    CallsIn F n Try.prog 41 #[.agg #[x0, x1, x2, x3, x4, x5]] w fun e w' => e = .returned (.func (.func 75) #[] #[.pointer (some ⟨w.heap.size, 0, none⟩)]) ∧ w' = w.alloc (.cells #[x0, x1, x2, x3, x4, x5] 44) := by
  refine callsIn_of_wp Try.func41 rfl h41 ?_ hro
  simp only [Try.ntmps41, List.size_toArray, List.length_cons, List.length_nil, Nat.reduceAdd, Nat.reduceSub, Array.replicate_succ, Array.replicate_zero, List.push_toArray, List.append_toArray, List.nil_append, List.cons_append]
  gi_wp2
  go_ret
  exact ⟨rfl, rfl⟩
end
section
open Go.RowKit Go.Shelf
attribute [local go_sem] Oper.semAt_some
theorem cell_new1 (W : World) (v : Value) (t : TypeId) : (W.alloc (.cells #[v] t)).cell? ⟨W.heap.size, 0, none⟩ = some v ∧ (W.alloc (.cells #[v] t)).frozen? ⟨W.heap.size, 0, none⟩ = false := by
  exact ⟨cell_of_row _ _ _ _ _ _ (heap_alloc_new W (.cells #[v] t)), frozen_of_row _ _ _ _ _ (heap_alloc_new W (.cells #[v] t))⟩
theorem cell_alloc1 {W : World} {a : Addr} {v : Value} (o : Obj) (h : W.cell? a = some v) : (W.alloc o).cell? a = some v := cell_kept h (World.grownBy_alloc W o none) (fun r e => by cases e)
theorem frozen_alloc1 {W : World} {a : Addr} {v : Value} (o : Obj) (h : W.cell? a = some v) (hf : W.frozen? a = false) : (W.alloc o).frozen? a = false := (frozen_kept h (World.grownBy_alloc W o none) (fun r e => by cases e)).trans hf
theorem KC_set (nb : Nat) (W : World) (v : Value) : KS nb W (W.setCell ⟨nb, 0, none⟩ v) :=
  ⟨fun k cur ty fr hk h => (heap_setCell_other W ⟨nb, 0, none⟩ k v (fun e => hk e)).trans h, by simp⟩
set_option maxRecDepth 100000 in
set_option maxHeartbeats 4000000 in
theorem size_in (F : Fence) (hd : F.depth = none) (n : Nat) (h25 : F.fn 25) (h41 : F.fn 41) (h75 : F.fn 75) (h76 : F.fn 76) (hro : F.round = none) (hn : 3 ≤ n) (T : DT) (x0 x1 x2 x3 x4 x5 : Value) (bs : List Nat) (w : World) (hN : NRep w T [x0, x1, x2, x3, x4, x5] bs) (hs : sizeD T ≤ 1073741824) (hdp : depthD T ≤ 1073741824) :
    CallsIn F n Try.prog 25 #[.agg #[x0, x1, x2, x3, x4, x5]] w fun e W' => e = .returned (.int .i64 (sizeD T)) ∧ Below w.heap.size w W' := by
  have h1 : 1 ≤ n := by omega
  have hbd := hN.bd _ _ _
  refine callsIn_of_wp_marks Try.func25 rfl h25 ?_ hro
  simp only [Try.ntmps25, List.size_toArray, List.length_cons, List.length_nil, Nat.reduceAdd, Nat.reduceSub, Array.replicate_succ, Array.replicate_zero, List.push_toArray, List.append_toArray, List.nil_append, List.cons_append]
  gi_wp2_with (gi_at_call 41; refine (walked_in F (n - 1) h41 hro x0 x1 x2 x3 x4 x5 _).mono ?_; rintro e w' ⟨rfl, rfl⟩)
  have hn1 := cell_new1 (w.alloc (.cells #[x0, x1, x2, x3, x4, x5] 44)) (.int .i64 0) 3
  rw [World.size_alloc] at hn1
  have hB0 : Below w.heap.size w (((w.alloc (.cells #[x0, x1, x2, x3, x4, x5] 44)).alloc (.cells #[.int .i64 0] 3)).alloc (.cells #[x0, x1, x2, x3, x4, x5] 44)) := by exact zw
  have hBx : (((w.alloc (.cells #[x0, x1, x2, x3, x4, x5] 44)).alloc (.cells #[.int .i64 0] 3)).alloc (.cells #[x0, x1, x2, x3, x4, x5] 44)).heap[w.heap.size + 1 + 1]? = some (.cells #[x0, x1, x2, x3, x4, x5] 44 (0, 0)) := by
    simpa using heap_alloc_new ((w.alloc (.cells #[x0, x1, x2, x3, x4, x5] 44)).alloc (.cells #[.int .i64 0] 3)) (.cells #[x0, x1, x2, x3, x4, x5] 44)
  have hpos := sizeD_pos T
  refine wpIn_rangeFunc_ownF hro h1 (gf := 75) (lb := #[.pointer (some ⟨w.heap.size + 1 + 1, 0, none⟩)]) rfl h75 (enters_of Try.func75 (by kernel_rfl) rfl)
    (visits_stops F hd (n - 1) h75 h76 hro (w.heap.size + 1 + 1) (w.heap.size + 1) (sizeD T).toNat T x0 x1 x2 x3 x4 x5 bs _ hBx (hN.below hB0) (fun h => by have := hbd _ h; omega) (by simp) (by omega) hdp) KS_t (fun W l o o' _ h ho _ => KS_b W l o o' h ho) (Below.refl _ _) (fun _ => rfl)
    (fun pre W => (W.cell? ⟨w.heap.size + 1, 0, none⟩ = some (.int .i64 ((pre.length : Nat) : Int)) ∧ W.frozen? ⟨w.heap.size + 1, 0, none⟩ = false) ∧ Below w.heap.size w W)
    (fun _ _ _ => False)
    (OwnFrom.and (Own.from (fun s A B row hs hg hr => ⟨cell_kept hs.1 hg hr, (frozen_kept hs.1 hg hr).trans hs.2⟩) _) (ownFrom_below (Nat.le_refl _) (by simp; omega)))
    (fun _ _ _ _ _ hs _ _ => hs)
    ⟨⟨cell_alloc1 _ hn1.1, frozen_alloc1 _ hn1.1 hn1.2⟩, hB0⟩
    (fun x => { tmps := #[.agg #[x0, x1, x2, x3, x4, x5], .pointer (some ⟨w.heap.size, 0, none⟩), .pointer (some ⟨w.heap.size + 1, 0, none⟩), .agg #[x0, x1, x2, x3, x4, x5], .func (.func 75) #[] #[.pointer (some ⟨w.heap.size + 1 + 1, 0, none⟩)], .int .i64 x.1.1, .agg x.1.2, undef, undef, undef], defers := [] }) ?assign ?body ?done ?stop
  case assign =>
    intro l x W K hK
    unfold visV
    gi_wp2
    first | exact hK | simpa using hK
  case body =>
    rintro l pre x W ⟨⟨hc, hf⟩, hB⟩ hlen
    have q1 : IntKind.i64.wrap ((pre.length : Int) + 1) = pre.length + 1 := IntWalk.i64_in _ (by omega)
    have q2 : wrap64 ((pre.length : Int) + 1) = pre.length + 1 := by rw [← IntWalk.i64_left]; exact q1
    gi_wp2
    exact ⟨KeepsOthers.setCell _ _ _, KC_set _ _ _, ⟨by rw [List.length_append, List.length_singleton]; push_cast; exact World.cell?_setCell_same' _ _ _ (by rw [hc]; rfl), by rw [World.frozen?_setCell]; exact hf⟩, hB.setCell (p := ⟨w.heap.size + 1, 0, none⟩) (by simp) _⟩
  case done =>
    rintro D ys W hD hys ⟨⟨hc, hf⟩, hB⟩ hK
    have hl : (ys.length : Int) = sizeD T := by rw [← levels_len 0 T, ← hys, List.length_map]
    rw [hl] at hc
    gi_wp2
    have hK' := (KeepsOthers.setCell W ⟨w.heap.size + 1, 0, none⟩ (.int .i64 (sizeD T))).same D _ hK rfl
    refine ⟨by simp, .inl ⟨_, _, rfl, run_takeDeferred hK', ?_⟩⟩
    have hc5 := cell_kept (World.cell?_setCell_same' W ⟨w.heap.size + 1, 0, none⟩ (.int .i64 (sizeD T)) (by rw [hc]; rfl)) (grownBy_putObj' _ D (.deferred none)) (fun r e => by cases e; exact ⟨_, hK', rfl⟩)
    refine ⟨.int .i64 (sizeD T), ?_, rfl, (hB.setCell (p := ⟨w.heap.size + 1, 0, none⟩) (by simp) _).trans (belowK_b (w := w) (Nat.le_refl _) _ D _ _ (by simp at hD; omega) hK' rfl rfl)⟩
    simp [results, Try.f25, Try.results25, go_sem, hc5]
  case stop =>
    rintro D c pre W _ _ h _
    exact h.elim
set_option maxRecDepth 100000 in
set_option maxHeartbeats 4000000 in
theorem deep_in (F : Fence) (hd : F.depth = none) (n : Nat) (h26 : F.fn 26) (h41 : F.fn 41) (h75 : F.fn 75) (h76 : F.fn 76) (hro : F.round = none) (hn : 3 ≤ n) (T : DT) (x0 x1 x2 x3 x4 x5 : Value) (bs : List Nat) (w : World) (hN : NRep w T [x0, x1, x2, x3, x4, x5] bs) (hs : sizeD T ≤ 1073741824) (hdp : depthD T ≤ 1073741824) :
    CallsIn F n Try.prog 26 #[.agg #[x0, x1, x2, x3, x4, x5]] w fun e W' => e = .returned (.int .i64 (depthD T)) ∧ Below w.heap.size w W' := by
  have h1 : 1 ≤ n := by omega
  have hbd := hN.bd _ _ _
  refine callsIn_of_wp_marks Try.func26 rfl h26 ?_ hro
  simp only [Try.ntmps26, List.size_toArray, List.length_cons, List.length_nil, Nat.reduceAdd, Nat.reduceSub, Array.replicate_succ, Array.replicate_zero, List.push_toArray, List.append_toArray, List.nil_append, List.cons_append]
  gi_wp2_with (gi_at_call 41; refine (walked_in F (n - 1) h41 hro x0 x1 x2 x3 x4 x5 _).mono ?_; rintro e w' ⟨rfl, rfl⟩)
  have hn1 := cell_new1 (w.alloc (.cells #[x0, x1, x2, x3, x4, x5] 44)) (.int .i64 0) 3
  rw [World.size_alloc] at hn1
  have hB0 : Below w.heap.size w (((w.alloc (.cells #[x0, x1, x2, x3, x4, x5] 44)).alloc (.cells #[.int .i64 0] 3)).alloc (.cells #[x0, x1, x2, x3, x4, x5] 44)) := by exact zw
  have hBx : (((w.alloc (.cells #[x0, x1, x2, x3, x4, x5] 44)).alloc (.cells #[.int .i64 0] 3)).alloc (.cells #[x0, x1, x2, x3, x4, x5] 44)).heap[w.heap.size + 1 + 1]? = some (.cells #[x0, x1, x2, x3, x4, x5] 44 (0, 0)) := by
    simpa using heap_alloc_new ((w.alloc (.cells #[x0, x1, x2, x3, x4, x5] 44)).alloc (.cells #[.int .i64 0] 3)) (.cells #[x0, x1, x2, x3, x4, x5] 44)
  have hpos := sizeD_pos T
  refine wpIn_rangeFunc_ownF hro h1 (gf := 75) (lb := #[.pointer (some ⟨w.heap.size + 1 + 1, 0, none⟩)]) rfl h75 (enters_of Try.func75 (by kernel_rfl) rfl)
    (visits_stops F hd (n - 1) h75 h76 hro (w.heap.size + 1 + 1) (w.heap.size + 1) (sizeD T).toNat T x0 x1 x2 x3 x4 x5 bs _ hBx (hN.below hB0) (fun h => by have := hbd _ h; omega) (by simp) (by omega) hdp) KS_t (fun W l o o' _ h ho _ => KS_b W l o o' h ho) (Below.refl _ _) (fun _ => rfl)
    (fun pre W => (W.cell? ⟨w.heap.size + 1, 0, none⟩ = some (.int .i64 (pre.foldl (fun d x => max d (x.1.1 + 1)) 0)) ∧ W.frozen? ⟨w.heap.size + 1, 0, none⟩ = false) ∧ Below w.heap.size w W)
    (fun _ _ _ => False)
    (OwnFrom.and (Own.from (fun s A B row hs hg hr => ⟨cell_kept hs.1 hg hr, (frozen_kept hs.1 hg hr).trans hs.2⟩) _) (ownFrom_below (Nat.le_refl _) (by simp; omega)))
    (fun _ _ _ _ _ hs _ _ => hs)
    ⟨⟨cell_alloc1 _ hn1.1, frozen_alloc1 _ hn1.1 hn1.2⟩, hB0⟩
    (fun x => { tmps := #[.agg #[x0, x1, x2, x3, x4, x5], .pointer (some ⟨w.heap.size, 0, none⟩), .pointer (some ⟨w.heap.size + 1, 0, none⟩), .int .i64 x.1.1, .agg #[x0, x1, x2, x3, x4, x5], .func (.func 75) #[] #[.pointer (some ⟨w.heap.size + 1 + 1, 0, none⟩)], .int .i64 x.1.1, .agg x.1.2, undef, undef, undef, undef, undef], defers := [] }) ?assign ?body ?done ?stop
  case assign =>
    intro l x W K hK
    unfold visV
    gi_wp2
    first | exact hK | simpa using hK
  case body =>
    rintro l pre x W ⟨⟨hc, hf⟩, hB⟩ hlen
    obtain ⟨b0, b1⟩ := x.2
    have q1 : IntKind.i64.wrap (x.1.1 + 1) = x.1.1 + 1 := IntWalk.i64_in _ (by omega)
    have q2 : wrap64 (x.1.1 + 1) = x.1.1 + 1 := by rw [← IntWalk.i64_left]; exact q1
    gi_wp2
    exact ⟨KeepsOthers.setCell _ _ _, KC_set _ _ _, ⟨by rw [List.foldl_append]; exact World.cell?_setCell_same' _ _ _ (by rw [hc]; rfl), by rw [World.frozen?_setCell]; exact hf⟩, hB.setCell (p := ⟨w.heap.size + 1, 0, none⟩) (by simp) _⟩
  case done =>
    rintro D ys W hD hys ⟨⟨hc, hf⟩, hB⟩ hK
    have hl : ys.foldl (fun d x => max d (x.1.1 + 1)) 0 = depthD T := by
      have h := levels_max 0 T 0
      rw [← hys, List.foldl_map] at h
      rw [h]
      have := depthD_pos T
      omega
    rw [hl] at hc
    gi_wp2
    have hK' := (KeepsOthers.setCell W ⟨w.heap.size + 1, 0, none⟩ (.int .i64 (depthD T))).same D _ hK rfl
    refine ⟨by simp, .inl ⟨_, _, rfl, run_takeDeferred hK', ?_⟩⟩
    have hc5 := cell_kept (World.cell?_setCell_same' W ⟨w.heap.size + 1, 0, none⟩ (.int .i64 (depthD T)) (by rw [hc]; rfl)) (grownBy_putObj' _ D (.deferred none)) (fun r e => by cases e; exact ⟨_, hK', rfl⟩)
    refine ⟨.int .i64 (depthD T), ?_, rfl, (hB.setCell (p := ⟨w.heap.size + 1, 0, none⟩) (by simp) _).trans (belowK_b (w := w) (Nat.le_refl _) _ D _ _ (by simp at hD; omega) hK' rfl rfl)⟩
    simp [results, Try.f26, Try.results26, go_sem, hc5]
  case stop =>
    rintro D c pre W _ _ h _
    exact h.elim
theorem size_any (T : DT) (x0 x1 x2 x3 x4 x5 : Value) (bs : List Nat) (w : World) (hN : NRep w T [x0, x1, x2, x3, x4, x5] bs) (hs : sizeD T ≤ 1073741824) (hdp : depthD T ≤ 1073741824) :
    Calls Try.prog 25 #[.agg #[x0, x1, x2, x3, x4, x5]] w fun e W' => e = .returned (.int .i64 (sizeD T)) ∧ Below w.heap.size w W' :=
  callsIn_wide.1 (size_in Fence.wide rfl 3 trivial trivial trivial trivial rfl (Nat.le_refl _) T x0 x1 x2 x3 x4 x5 bs w hN hs hdp)
theorem deep_any (T : DT) (x0 x1 x2 x3 x4 x5 : Value) (bs : List Nat) (w : World) (hN : NRep w T [x0, x1, x2, x3, x4, x5] bs) (hs : sizeD T ≤ 1073741824) (hdp : depthD T ≤ 1073741824) :
    Calls Try.prog 26 #[.agg #[x0, x1, x2, x3, x4, x5]] w fun e W' => e = .returned (.int .i64 (depthD T)) ∧ Below w.heap.size w W' :=
  callsIn_wide.1 (deep_in Fence.wide rfl 3 trivial trivial trivial trivial rfl (Nat.le_refl _) T x0 x1 x2 x3 x4 x5 bs w hN hs hdp)
end
section
open Go.RowKit
def DocW (v : Value) (D : List UInt8) (fuel : Int) (r : DO) : Prop := ∀ W, Byt W v D → Calls Try.prog 27 #[v, .int .i64 fuel] W (TPost W r)
theorem docW (v : Value) (D : List UInt8) (fuel : Int) (hf : fuel ≤ 1073741824) : DocW v D fuel (docD D fuel) := by
  rintro W (⟨rfl, rfl⟩ | ⟨b, o, cap, rfl, hD⟩)
  · exact ddoc_nil W fuel
  · exact ddoc_doc hD fuel hf
def CheckW (v : Value) (D : List UInt8) (dp B x1 x2 x3 x4 : Int) : Prop := ∀ W, Byt W v D → Calls Try.prog 12 #[v, .int .i64 dp, .int .i64 B] W fun en w' => en = .returned (.tuple #[.agg #[.int .i64 x1, .int .i64 x2, .int .i64 x3], .int .i64 x4]) ∧ Below W.heap.size W w'
theorem checkW {v : Value} {D : List UInt8} {dp B : Int} (hB : B ≤ 1073741824) : CheckW v D dp B (checkM D dp B).1.1 (checkM D dp B).1.2.1 (checkM D dp B).1.2.2 (checkM D dp B).2 :=
  fun W hW => check_byt v D W hW dp B hB
/-- The tree that Doc finds is small. -/
theorem doc_small {D : List UInt8} {T : DT} {f a : Int} (h : docD D 2000 = (T, f, a, 0)) : sizeD T ≤ 2000 ∧ depthD T ≤ 64 := by
  unfold docD at h
  by_cases h20 : rootE D.length (lastD D 1) (lastD D 2) = 20
  · rw [if_pos h20] at h; cases h
  rw [if_neg h20] at h
  by_cases hr : rootE D.length (lastD D 1) (lastD D 2) = 0
  · rw [if_neg (show ¬ (rootE D.length (lastD D 1) (lastD D 2) ≠ 0) by simpa using hr)] at h
    have := (treeD_fuel h).1
    omega
  · rw [if_pos (show rootE D.length (lastD D 1) (lastD D 2) ≠ 0 from hr)] at h
    injection h with h1 h2
    injection h2 with h2 h3
    injection h3 with h3 h4
    exact absurd h4 hr
theorem cellsY {w : World} {Y : Nat} {v0 v1 v2 v3 v4 v5 : Value} {ty : TypeId} (h : w.heap[Y]? = some (.cells #[v0, v1, v2, v3, v4, v5] ty (0, 0))) :
    w.cell? ⟨Y, 0, none⟩ = some v0 ∧ w.cell? ⟨Y, 1, none⟩ = some v1 ∧ w.cell? ⟨Y, 2, none⟩ = some v2 ∧ w.cell? ⟨Y, 3, none⟩ = some v3 ∧ w.cell? ⟨Y, 4, none⟩ = some v4 ∧ w.cell? ⟨Y, 5, none⟩ = some v5 :=
  ⟨cell_of_row _ _ _ _ _ _ h, cell_of_row _ _ _ _ _ _ h, cell_of_row _ _ _ _ _ _ h, cell_of_row _ _ _ _ _ _ h, cell_of_row _ _ _ _ _ _ h, cell_of_row _ _ _ _ _ _ h⟩
theorem cellsX {w : World} {Y : Nat} {v0 v1 v2 : Value} {ty : TypeId} (h : w.heap[Y]? = some (.cells #[v0, v1, v2] ty (0, 0))) :
    w.cell? ⟨Y, 0, none⟩ = some v0 ∧ w.cell? ⟨Y, 1, none⟩ = some v1 ∧ w.cell? ⟨Y, 2, none⟩ = some v2 :=
  ⟨cell_of_row _ _ _ _ _ _ h, cell_of_row _ _ _ _ _ _ h, cell_of_row _ _ _ _ _ _ h⟩
set_option maxHeartbeats 8000000 in
set_option maxRecDepth 100000 in
theorem walk_core (a0 : Option Addr) (len0 cap0 : Nat) (z0 : List Int) (w : World) (w0 : IsRow .u8 w a0 len0 cap0 z0) :
    Calls Try.prog 10 #[.slice a0 len0 cap0] w fun e w' => e = .returned (.bool true) ∧ Below w.heap.size w w' := by
  obtain ⟨k, c, L, hk, hL, hk5, hsl, hcp⟩ := front 500 (by omega) w0
  have hsl' : ∀ W : World, (Instr.slice 22 (.slice a0 len0 cap0) none (some (.int .i64 (min (len0 : Int) 500))) none).run Try.prog W = .ok (.slice a0 k c) W := hsl
  have HCP := Lib.hid hcp
  clear hcp hk hsl w0
  have HD := Lib.hid (fun v => docW v L 2000 (by omega))
  have HC := Lib.hid (fun v => checkW (v := v) (D := L) (dp := 64) (B := 1048576) (by omega))
  obtain ⟨⟨T, lf, at1, er⟩, hr⟩ : ∃ r, docD L 2000 = r := ⟨_, rfl⟩
  have hlaw := fun he => walk_law (D := L) (by omega) hr (he : er ≠ 260)
  have hsm := fun (h : er = 0) => doc_small (h ▸ hr)
  rw [hr] at HD
  generalize checkM L 64 1048576 = x at HC hlaw
  obtain ⟨⟨x1, x2, x3⟩, x4⟩ := x
  dsimp only at HC
  have HLaw := Lib.hid hlaw
  have HSm := Lib.hid hsm
  clear hlaw hsm hr hL hk5
  go_enter Try.func10, Try.ntmps10
  go_wp2_with fail
  refine (works_any _).mono ?_
  rintro e w1 ⟨rfl, hb1⟩
  have hz1 := hb1.size
  go_wp2_with fail
  refine (HCP.out _ zw).mono ?_
  rintro e w2 ⟨⟨v, rfl, hv⟩, hb2⟩
  have hb02 := hb1.trans (hb2.mono hz1)
  have hz2 := hb02.size
  clear hb2 hb1
  go_wp2_with fail
  refine (HD.out v _ hv).mono ?_
  rintro e w3 ⟨kd1, nn1, uu1, ss1, A1, ma1, ca1, B1, mb1, cb1, bs1, rfl, hr1, -, -, hb3⟩
  dsimp only at hr1 ⊢
  have hz3 := hb3.size
  have HR1 := Lib.hid hr1
  clear hr1
  go_upto_region 5 with fail
  refine wp_named (fun W => Below w.heap.size w W ∧ Byt W v L ∧ Below w3.heap.size w3 W ∧ W.heap[w3.heap.size]? = some (.cells #[.int .i64 kd1, .int .i64 nn1, .int .u64 uu1, .string ss1, .slice A1 ma1 ca1, .slice B1 mb1 cb1] 44 (0, 0))) ⟨by exact zw, hv.below zw, by exact zw, heap_alloc_new _ _⟩ ?_
  rintro wu ⟨hbu, hvu, hbu3, hY⟩
  replace HR1 := Lib.hid (HR1.out.below hbu3)
  clear hbu3 hb3 hv hb02
  generalize w3.heap.size = Y at *
  have hzu := hbu.size
  by_cases h260 : er = 260
  · subst h260
    go_wp2_with fail
    go_returns
    exact ⟨rfl, by exact zw⟩
  have h260' : (er == 260) = false := by simpa using h260
  obtain ⟨l1, l2⟩ := HLaw.out h260
  clear h260 HLaw
  go_wp2_with fail
  refine (HC.out v _ hvu).mono ?_
  rintro e w5 ⟨rfl, hb5⟩
  have hz5 := hb5.size
  go_upto_region 8 with fail
  refine wp_named (fun W => Below w.heap.size w W ∧ Below wu.heap.size wu W ∧ W.heap[w5.heap.size]? = some (.cells #[.int .i64 x1, .int .i64 x2, .int .i64 x3] 25 (0, 0))) ⟨by exact zw, by exact zw, heap_alloc_new _ _⟩ ?_
  rintro wx ⟨hbx, hbux, hX⟩
  replace HR1 := Lib.hid (HR1.out.below hbux)
  have hYx := below_row hY hbux
  clear hb5 hbux hvu hY hbu HC HD HCP
  generalize w5.heap.size = X at *
  have hzx := hbx.size
  obtain ⟨y0, y1, y2, y3, y4, y5⟩ := cellsY hYx
  obtain ⟨k0, k1, k2⟩ := cellsX hX
  have gY : Y < wx.heap.size := (Array.getElem?_eq_some_iff.1 hYx).1
  have gX : X < wx.heap.size := (Array.getElem?_eq_some_iff.1 hX).1
  clear hX hYx
  by_cases her : er = 0
  · subst her
    obtain ⟨s9, h9⟩ := l1 rfl
    injection h9 with h9 h9d
    injection h9 with h9a h9b
    injection h9b with h9b h9c
    subst h9a; subst h9d
    obtain ⟨m1, m2⟩ := HSm.out rfl
    have HDe := Lib.hid (fun (W : World) (h : Below wx.heap.size wx W) => deep_any T _ _ _ _ _ _ bs1 W (HR1.out.below h) (by omega) (by omega))
    rw [h9b] at k1
    rw [h9c] at k2
    clear h9b h9c
    have HK := Lib.hid (fun (W : World) (h : Below wx.heap.size wx W) => (⟨h, (h.cell (p := ⟨X, 0, none⟩) gX).trans k0, (h.cell (p := ⟨X, 1, none⟩) gX).trans k1, (h.cell (p := ⟨X, 2, none⟩) gX).trans k2, (h.cell (p := ⟨Y, 0, none⟩) gY).trans y0, (h.cell (p := ⟨Y, 1, none⟩) gY).trans y1, (h.cell (p := ⟨Y, 2, none⟩) gY).trans y2, (h.cell (p := ⟨Y, 3, none⟩) gY).trans y3, (h.cell (p := ⟨Y, 4, none⟩) gY).trans y4, (h.cell (p := ⟨Y, 5, none⟩) gY).trans y5⟩ : Below wx.heap.size wx W ∧ W.cell? ⟨X, 0, none⟩ = some (.int .i64 x1) ∧ W.cell? ⟨X, 1, none⟩ = some (.int .i64 0) ∧ W.cell? ⟨X, 2, none⟩ = some (.int .i64 (depthD T)) ∧ W.cell? ⟨Y, 0, none⟩ = some (.int .i64 kd1) ∧ W.cell? ⟨Y, 1, none⟩ = some (.int .i64 nn1) ∧ W.cell? ⟨Y, 2, none⟩ = some (.int .u64 uu1) ∧ W.cell? ⟨Y, 3, none⟩ = some (.string ss1) ∧ W.cell? ⟨Y, 4, none⟩ = some (.slice A1 ma1 ca1) ∧ W.cell? ⟨Y, 5, none⟩ = some (.slice B1 mb1 cb1)))
    have hB := Below.refl wx.heap.size wx
    clear l1 l2 HSm m1 m2 HR1
    go_upto_region 9 with fail
    go_region_held3 (fun w' => Below wx.heap.size wx w' ∧ w'.cell? ⟨X, 0, none⟩ = some (.int .i64 x1) ∧ w'.cell? ⟨X, 1, none⟩ = some (.int .i64 0) ∧ w'.cell? ⟨X, 2, none⟩ = some (.int .i64 (depthD T)) ∧ w'.cell? ⟨Y, 0, none⟩ = some (.int .i64 kd1) ∧ w'.cell? ⟨Y, 1, none⟩ = some (.int .i64 nn1) ∧ w'.cell? ⟨Y, 2, none⟩ = some (.int .u64 uu1) ∧ w'.cell? ⟨Y, 3, none⟩ = some (.string ss1) ∧ w'.cell? ⟨Y, 4, none⟩ = some (.slice A1 ma1 ca1) ∧ w'.cell? ⟨Y, 5, none⟩ = some (.slice B1 mb1 cb1)) (exact HK.out _ zw) ((go_at_call 26; refine (HDe.out _ zw).mono ?_; rintro e w6 ⟨rfl, hb6⟩; obtain ⟨hc1, hf1, hl1⟩ := bcell hb6; (try simp only [zdz] at hc1 hf1 hl1); have hz6 := hb6.size; (try simp only [zsz] at hz6); (have hB6 : Below wx.heap.size wx w6 := by exact zw)))
    all_goals (go_wp2_with fail; go_returns; exact ⟨rfl, by exact zw⟩)
  · obtain ⟨s9, a9, h9, h9o⟩ := l2 her
    injection h9 with h9 h9d
    injection h9 with h9a h9b
    injection h9b with h9b h9c
    subst h9a; subst h9b; subst h9c; subst h9d
    have her1 : (x4 == 0) = false := by simpa using her
    have hone : (x2 == at1) = true ∨ ((x2 == at1) = false ∧ (x4 == 61) = true) := by
      by_cases ha : x2 = at1
      · exact .inl (by simpa using ha)
      · rcases h9o with h | h
        · exact absurd h ha
        · exact .inr ⟨by simpa using ha, by simpa using h⟩
    clear l1 l2 HSm HR1 h9o
    rcases hone with ho | ⟨ho, ho2⟩
    all_goals
      go_wp2_with fail
      go_returns
      exact ⟨rfl, by exact zw⟩
theorem walk_walk (a0 : Option Addr) (len0 cap0 : Nat) (z0 : List Int) (w : World) (w0 : IsRow .u8 w a0 len0 cap0 z0) :
    Calls Try.prog 10 #[.slice a0 len0 cap0] w fun e w' => e = .returned (.bool true) ∧ Below w.heap.size w w' := walk_core a0 len0 cap0 z0 w w0
end
end Go.Proofs.Ytmpflnlajakibaa
