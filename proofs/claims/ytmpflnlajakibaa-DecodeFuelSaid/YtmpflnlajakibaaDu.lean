/- The walk of DecodeFuel. -/
import Derived.Test.YtmpflnlajakibaaDp
import Derived.Test.YtmpflnlajakibaaDs
import Derived.Test.YtmpflnlajakibaaBri
import Derived.Deep.RegionHeld3
import Derived.Test.YtmpflnlajakibaaHc
namespace Go.Proofs.Ytmpflnlajakibaa
set_option linter.unusedVariables false
set_option linter.unusedSimpArgs false
open Go.RowKit
/-- Bring modulo 100. -/
def br100 (i : Int) : Int := bringV i 100
theorem br100_any (i : Int) (w : World) : Calls Try.prog 16 #[.int .i64 i, .int .i64 100] w fun e w' => e = .returned (.int .i64 (br100 i)) ∧ w = w' := bring_any i 100 w (by omega) (by omega)
theorem set6row {w : World} {Y : Nat} {a0 a1 a2 a3 a4 a5 v0 v1 v2 v3 v4 v5 : Value} {ty : TypeId} {fr : Nat × Nat} (h : w.heap[Y]? = some (.cells #[a0, a1, a2, a3, a4, a5] ty fr)) :
    ((((((w.setCell ⟨Y, 0, none⟩ v0).setCell ⟨Y, 1, none⟩ v1).setCell ⟨Y, 2, none⟩ v2).setCell ⟨Y, 3, none⟩ v3).setCell ⟨Y, 4, none⟩ v4).setCell ⟨Y, 5, none⟩ v5).heap[Y]? = some (.cells #[v0, v1, v2, v3, v4, v5] ty fr) := by
  simp [World.setCell, Array.getElem?_modify, h]
theorem fuel_law {D : List UInt8} {dp m p q t k c2 c3 : Int} {T U : DT} {left a1 er n2 a2 er2 : Int} (h : treeD D dp m p q t k = (T, left, a1, er)) (h2 : treeD D (max dp 0 + c2) (max m 0 + c3) p q t k = (U, n2, a2, er2)) (hc2 : 0 ≤ c2) (hc3 : 0 ≤ c3) :
    (er ≠ 0 → er = 260 ∨ er = 61 ∨ er2 = er) ∧ (er = 0 → U = T ∧ er2 = 0 ∧ left = m - sizeD T ∧ n2 = left + c3 ∧ 1 ≤ sizeD T ∧ sizeD T ≤ m ∧ 1 ≤ depthD T ∧ depthD T ≤ dp ∧ (∃ a', treeD D dp (sizeD T - 1) p q t k = (zeroT, 0, a', 260)) ∧
      treeD D (depthD T) (sizeD T) p q t k = (T, 0, 0, 0) ∧ (treeD D (depthD T - 1) (sizeD T) p q t k).2.2.2 ≠ 0) := by
  refine ⟨fun h1 => ?_, fun h1 => ?_⟩
  · by_cases h260 : er = 260
    · exact .inl h260
    by_cases h61 : er = 61
    · exact .inr (.inl h61)
    have := treeD_more (dp' := max dp 0 + c2) (m' := max m 0 + c3) (by omega) (by omega) h h1 h260 h61
    rw [h2] at this
    exact .inr (.inr this)
  · subst h1
    obtain ⟨⟨j1, j2, j3⟩, j4, j5, j6⟩ := treeD_fuel h
    have hp := sizeD_pos T
    have hq := depthD_pos T
    have e := j4 (max dp 0 + c2) (max m 0 + c3) (by omega) (by omega)
    rw [h2] at e
    cases e
    have e3 := j4 (depthD T) (sizeD T) (Int.le_refl _) (Int.le_refl _)
    rw [Int.sub_self] at e3
    exact ⟨rfl, rfl, by omega, by omega, hp, by omega, hq, j3, j5 dp (sizeD T - 1) j3 (by omega), e3, j6 (depthD T - 1) (sizeD T) (by omega)⟩
/-- What the walk carries along: the document, the reference, the numbers, the tree found first. -/
structure FF (W : World) (v : Value) (L : List UInt8) (G Y : Nat) (R C : Array Value) (T : DT) (x0 x1 x2 x3 x4 x5 : Value) (bs : List Nat) : Prop where
  byt : Byt W v L
  ref : W.heap[G]? = some (.cells R 39 (0, 0))
  num : W.heap[G + 1]? = some (.cells C 54 (0, 0))
  row : W.heap[Y]? = some (.cells #[x0, x1, x2, x3, x4, x5] 44 (0, 0))
  rep : NRep W T [x0, x1, x2, x3, x4, x5] bs
theorem FF.below {W W' : World} {v : Value} {L : List UInt8} {G Y : Nat} {R C : Array Value} {T : DT} {x0 x1 x2 x3 x4 x5 : Value} {bs : List Nat} (h : FF W v L G Y R C T x0 x1 x2 x3 x4 x5 bs) (hb : Below W.heap.size W W') : FF W' v L G Y R C T x0 x1 x2 x3 x4 x5 bs :=
  ⟨h.byt.below hb, below_row h.ref hb, below_row h.num hb, below_row h.row hb, h.rep.below hb⟩
set_option maxHeartbeats 16000000 in
set_option maxRecDepth 100000 in
theorem fuel_core (a0 : Option Addr) (len0 cap0 : Nat) (p q t k l0 l1 l2 l3 : Int) (w : World) (hF : FrontOk 600 w a0 len0 cap0) :
    Calls Try.prog 9 #[.slice a0 len0 cap0, .agg #[.int .i64 p, .int .i64 q, .int .i64 t, .int .i64 k], .agg #[.int .i64 l0, .int .i64 l1, .int .i64 l2, .int .i64 l3]] w fun e w' => e = .returned (.bool true) ∧ Below w.heap.size w w' := by
  obtain ⟨k5, c, L, hk, hL, hk5, hsl, hcp, hcv⟩ := hF
  have hsl' : ∀ W : World, (Instr.slice 22 (.slice a0 len0 cap0) none (some (.int .i64 (min (len0 : Int) 600))) none).run Try.prog W = .ok (.slice a0 k5 c) W := hsl
  have HCP := Lib.hid hcp
  clear hcp hk hsl hcv
  obtain ⟨m, hm⟩ : ∃ m, min l1 2000 = m := ⟨_, rfl⟩
  obtain ⟨dp, hdp⟩ : ∃ dp, min l0 64 = dp := ⟨_, rfl⟩
  have hm2 : m ≤ 2000 := by omega
  have hdp2 : dp ≤ 64 := by omega
  have hBd2 := bringV_bd l2 (n := 100) (by omega)
  have hBd3 := bringV_bd l3 (n := 100) (by omega)
  have HBR := Lib.hid br100_any
  have hBd2 : 0 ≤ br100 l2 ∧ br100 l2 < 100 := hBd2
  have hBd3 : 0 ≤ br100 l3 ∧ br100 l3 < 100 := hBd3
  have HT := Lib.hid (fun v dp m (hm : m ≤ 1073741824) => treeP v L p q t k dp m hm)
  obtain ⟨T, left, at1, er, hr⟩ : ∃ T left at1 er, treeD L dp m p q t k = (T, left, at1, er) := ⟨_, _, _, _, rfl⟩
  obtain ⟨U, n2, at2, er2, hrr⟩ : ∃ U n2 at2 er2, treeD L (max dp 0 + (br100 l2)) (max m 0 + (br100 l3)) p q t k = (U, n2, at2, er2) := ⟨_, _, _, _, rfl⟩
  have HLaw := Lib.hid (fuel_law hr hrr hBd2.1 hBd3.1)
  have HR := Lib.hid hr
  have HRR := Lib.hid hrr
  clear hr hrr hL hk5
  go_enter Try.func9, Try.ntmps9
  go_upto_region 2 with fail
  refine (HCP.out _ zw).mono ?_
  rintro e w1 ⟨⟨v, rfl, hv⟩, hb1⟩
  have hz1 := hb1.size
  simp only [zsz] at hz1
  go_upto_region 2 with fail
  refine wp_named (fun wn => Below w.heap.size w wn ∧ Byt wn v L ∧ wn.heap[w.heap.size]? = some (.cells #[.int .i64 p, .int .i64 q, .int .i64 t, .int .i64 k] 39 (0, 0)) ∧ wn.heap[w.heap.size + 1]? = some (.cells #[.int .i64 l0, .int .i64 l1, .int .i64 l2, .int .i64 l3] 54 (0, 0))) ⟨by exact zw, hv, ?_, ?_⟩ ?_
  · exact (hb1.block _ (by simp; omega)).trans (below_row (heap_alloc_new w _) zw)
  · exact (hb1.block _ (by simp)).trans (by simpa using heap_alloc_new (w.alloc _) _)
  clear hb1 hv hz1
  generalize hG : w.heap.size = G
  rintro wn ⟨hbn, hv, hR, hD2⟩
  rw [← hG] at hbn
  have hzn := hbn.size
  obtain ⟨d0, d1, d2, d3⟩ := cells4 hD2
  go_cut [8, 9] (fun s8 s9 wx => s8 = .int .i64 dp ∧ s9 = .int .i64 m ∧ Below wn.heap.size wn wx)
  case first =>
    go_region_held3 (fun w' => w'.cell? ⟨G + 1, 0, none⟩ = some (.int .i64 l0) ∧ w'.cell? ⟨G + 1, 1, none⟩ = some (.int .i64 l1) ∧ w'.cell? ⟨G + 1, 2, none⟩ = some (.int .i64 l2) ∧ w'.cell? ⟨G + 1, 3, none⟩ = some (.int .i64 l3)) (first | (with_reducible exact ⟨d0, d1, d2, d3⟩) | (refine ⟨?_, ?_, ?_, ?_⟩ <;> go_keep)) (fail)
    all_goals (go_wp2_with fail; go_meet; exact ⟨rfl, rfl, by exact zw⟩)
  case rest =>
  obtain ⟨rfl, rfl, hbc⟩ := hcut
  go_upto_region 3 with fail
  refine wp_named (fun W => Below w.heap.size w W ∧ Byt W v L ∧ W.heap[G]? = some (.cells #[.int .i64 p, .int .i64 q, .int .i64 t, .int .i64 k] 39 (0, 0)) ∧ W.heap[G + 1]? = some (.cells #[.int .i64 l0, .int .i64 l1, .int .i64 l2, .int .i64 l3] 54 (0, 0))) ⟨by exact zw, hv.below zw, below_row hR zw, below_row hD2 zw⟩ ?_
  clear d0 d1 d2 d3 hbn hv hR hD2 hbc
  rintro w0 ⟨hb0, hv, hR, hD2⟩
  have hz0 := hb0.size
  obtain ⟨r0, r1, r2, r3⟩ := cells4 hR
  go_wp2_with fail
  refine (HR.out ▸ HT.out v dp m (by omega) _ hv).mono ?_
  rintro e w2 ⟨kd1, nn1, uu1, ss1, A1, ma1, ca1, B1, mb1, cb1, bs1, rfl, hr1, -, -, hb2⟩
  dsimp only
  have hz2 := hb2.size
  have HN1 := Lib.hid hr1
  clear hr1 r0 r1 r2 r3
  go_upto_region 4 with fail
  refine wp_named (fun W => Below w0.heap.size w0 W ∧ Below w2.heap.size w2 W ∧ W.heap[w2.heap.size]? = some (.cells #[.int .i64 kd1, .int .i64 nn1, .int .u64 uu1, .string ss1, .slice A1 ma1 ca1, .slice B1 mb1 cb1] 44 (0, 0))) ⟨by exact zw, by exact zw, heap_alloc_new _ _⟩ ?_
  rintro wu ⟨hbu, hbu2, hY⟩
  replace HN1 := Lib.hid (HN1.out.below hbu2)
  clear hbu2 hb2
  generalize w2.heap.size = Y at *
  have hzu := hbu.size
  have hRu := below_row hR hbu
  have hDu := below_row hD2 hbu
  have hvu := hv.below hbu
  obtain ⟨r0, r1, r2, r3⟩ := cells4 hRu
  obtain ⟨d0, d1, d2, d3⟩ := cells4 hDu
  have gG : G < wu.heap.size := (Array.getElem?_eq_some_iff.1 hRu).1
  have gG1 : G + 1 < wu.heap.size := (Array.getElem?_eq_some_iff.1 hDu).1
  have gY : Y < wu.heap.size := (Array.getElem?_eq_some_iff.1 hY).1
  have HV := Lib.hid hvu
  have hbwu := hb0.trans (hbu.mono hz0)
  go_cut [14, 15, 16, 17] (fun s14 s15 s16 s17 wx => ∃ Z kd2 nn2 uu2 ss2 A2 ma2 ca2 B2 mb2 cb2 bs, s14 = .pointer (some ⟨Z, 0, none⟩) ∧ s15 = .int .i64 n2 ∧ s16 = .int .i64 at2 ∧ s17 = .int .i64 er2 ∧ Below wu.heap.size wu wx ∧ NRep wx U [.int .i64 kd2, .int .i64 nn2, .int .u64 uu2, .string ss2, .slice A2 ma2 ca2, .slice B2 mb2 cb2] bs ∧ wx.heap[Z]? = some (.cells #[.int .i64 kd2, .int .i64 nn2, .int .u64 uu2, .string ss2, .slice A2 ma2 ca2, .slice B2 mb2 cb2] 44 (0, 0)))
  case first =>
    have HK := Lib.hid (fun (W : World) (h : Below wu.heap.size wu W) => (⟨h, (h.cell (p := ⟨G, 0, none⟩) gG).trans r0, (h.cell (p := ⟨G, 1, none⟩) gG).trans r1, (h.cell (p := ⟨G, 2, none⟩) gG).trans r2, (h.cell (p := ⟨G, 3, none⟩) gG).trans r3, (h.cell (p := ⟨G + 1, 0, none⟩) gG1).trans d0, (h.cell (p := ⟨G + 1, 1, none⟩) gG1).trans d1, (h.cell (p := ⟨G + 1, 2, none⟩) gG1).trans d2, (h.cell (p := ⟨G + 1, 3, none⟩) gG1).trans d3⟩ : Below wu.heap.size wu W ∧ W.cell? ⟨G, 0, none⟩ = some (.int .i64 p) ∧ W.cell? ⟨G, 1, none⟩ = some (.int .i64 q) ∧ W.cell? ⟨G, 2, none⟩ = some (.int .i64 t) ∧ W.cell? ⟨G, 3, none⟩ = some (.int .i64 k) ∧ W.cell? ⟨G + 1, 0, none⟩ = some (.int .i64 l0) ∧ W.cell? ⟨G + 1, 1, none⟩ = some (.int .i64 l1) ∧ W.cell? ⟨G + 1, 2, none⟩ = some (.int .i64 l2) ∧ W.cell? ⟨G + 1, 3, none⟩ = some (.int .i64 l3)))
    have hB := Below.refl wu.heap.size wu
    have q1 : IntKind.i64.wrap (max dp 0 + (br100 l2)) = max dp 0 + (br100 l2) := IntWalk.i64_in _ (by omega)
    have q2 : IntKind.i64.wrap (max m 0 + (br100 l3)) = max m 0 + (br100 l3) := IntWalk.i64_in _ (by omega)
    have HT2 := Lib.hid (fun (W : World) (h : Below wu.heap.size wu W) => HRR.out ▸ HT.out v (max dp 0 + (br100 l2)) (max m 0 + (br100 l3)) (by omega) W (HV.out.below h))
    clear hvu hv hRu hDu hY hbu hb0 hR hD2 hBd2 hBd3 hm hdp
    have eB : ∀ args w, (callFunc 16 args).run Try.prog w = .ok (.enter 16 args) w := enters_of Try.func16 (by kernel_rfl) rfl
    refine wp_region_noPanic ?_
    refine wp_region_held_drew (S := fun w' => Below wu.heap.size wu w' ∧ w'.cell? ⟨G, 0, none⟩ = some (.int .i64 p) ∧ w'.cell? ⟨G, 1, none⟩ = some (.int .i64 q) ∧ w'.cell? ⟨G, 2, none⟩ = some (.int .i64 t) ∧ w'.cell? ⟨G, 3, none⟩ = some (.int .i64 k) ∧ w'.cell? ⟨G + 1, 0, none⟩ = some (.int .i64 l0) ∧ w'.cell? ⟨G + 1, 1, none⟩ = some (.int .i64 l1) ∧ w'.cell? ⟨G + 1, 2, none⟩ = some (.int .i64 l2) ∧ w'.cell? ⟨G + 1, 3, none⟩ = some (.int .i64 l3)) (by kernel_rfl) (HK.out _ zw) (fun hHeld => ?_)
    refine wpAnyH_take (i := 0) (oi := { dst := some 54, op := Op.move (Operand.tmp 7), type := 22, pos := "outright.go:95", after := #[], guard := none }) (v := ?_) rfl (by kernel_rfl) (by kernel_rfl) (by kernel_rfl) (fun _ _ _ h => h) (Or.inl ⟨by rfl, ?_⟩) (by assumption) ?_
    rotate_left
    · ((intro wS hSw; (try dsimp only at hSw); go_simp); (try with_reducible rfl))
    simp only [Act.put, List.setIfInBounds_toArray, List.set_cons_zero, List.set_cons_succ]
    refine wpAnyH_take (i := 1) (oi := { dst := some 55, op := Op.load 39 (Operand.tmp 4), type := 39, pos := "outright.go:95", after := #[], guard := none }) (v := ?_) rfl (by kernel_rfl) (by kernel_rfl) (by kernel_rfl) (fun _ _ _ h => h) (Or.inl ⟨by rfl, ?_⟩) (by assumption) ?_
    rotate_left
    · ((intro wS hSw; (try dsimp only at hSw); go_simp); (try with_reducible rfl))
    simp only [Act.put, List.setIfInBounds_toArray, List.set_cons_zero, List.set_cons_succ]
    refine wpAnyH_take (i := 2) (oi := { dst := some 56, op := Op.move (Operand.tmp 8), type := 3, pos := "outright.go:95", after := #[], guard := none }) (v := ?_) rfl (by kernel_rfl) (by kernel_rfl) (by kernel_rfl) (fun _ _ _ h => h) (Or.inl ⟨by rfl, ?_⟩) (by assumption) ?_
    rotate_left
    · ((intro wS hSw; (try dsimp only at hSw); go_simp); (try with_reducible rfl))
    simp only [Act.put, List.setIfInBounds_toArray, List.set_cons_zero, List.set_cons_succ]
    refine wpAnyH_take (i := 3) (oi := { dst := some 57, op := Op.call { callee := Callee.builtin Builtin.max, args := #[Operand.tmp 56, Operand.const (Value.int IntKind.i64 0)], argTypes := #[3, 3] }, type := 3, pos := "outright.go:95", after := #[{ on := 2, ground := Ground.data }], guard := none }) (v := ?_) rfl (by kernel_rfl) (by kernel_rfl) (by kernel_rfl) (fun _ _ _ h => h) (Or.inl ⟨by rfl, ?_⟩) (by assumption) ?_
    rotate_left
    · ((intro wS hSw; (try dsimp only at hSw); go_simp); (try with_reducible rfl))
    simp only [Act.put, List.setIfInBounds_toArray, List.set_cons_zero, List.set_cons_succ]
    refine wpAnyH_take (i := 4) (oi := { dst := some 58, op := Op.indexAddr 54 (Operand.tmp 5) (Operand.const (Value.int IntKind.i64 2)), type := 0, pos := "outright.go:95", after := #[], guard := none }) (v := ?_) rfl (by kernel_rfl) (by kernel_rfl) (by kernel_rfl) (fun _ _ _ h => h) (Or.inl ⟨by rfl, ?_⟩) (by assumption) ?_
    rotate_left
    · ((intro wS hSw; (try dsimp only at hSw); go_simp); (try with_reducible rfl))
    simp only [Act.put, List.setIfInBounds_toArray, List.set_cons_zero, List.set_cons_succ]
    refine wpAnyH_take (i := 5) (oi := { dst := some 59, op := Op.load 3 (Operand.tmp 58), type := 3, pos := "outright.go:95", after := #[{ on := 4, ground := Ground.data }], guard := none }) (v := ?_) rfl (by kernel_rfl) (by kernel_rfl) (by kernel_rfl) (fun _ _ _ h => h) (Or.inl ⟨by rfl, ?_⟩) (by assumption) ?_
    rotate_left
    · ((intro wS hSw; (try dsimp only at hSw); go_simp); (try with_reducible rfl))
    simp only [Act.put, List.setIfInBounds_toArray, List.set_cons_zero, List.set_cons_succ]
    refine take_call (i := 6) (oi := { dst := some 60, op := Op.call { callee := Callee.value (Operand.func 16), args := #[Operand.tmp 59, Operand.const (Value.int IntKind.i64 100)], argTypes := #[3, 3] }, type := 3, pos := "outright.go:95", after := #[{ on := 5, ground := Ground.data }], guard := none }) (v := .int .i64 (br100 l2)) rfl (by kernel_rfl) (by kernel_rfl) (by kernel_rfl) (fun _ _ _ h => h) (by rfl) (fun wS hSw => ⟨16, #[.int .i64 l2, .int .i64 100], ?_, (HBR.out l2 wS).mono fun e w' h => ⟨h.1, h.2.symm⟩⟩) (by assumption) ?_
    · (simp only [execOp]; go_simp)
    simp only [Act.put, List.setIfInBounds_toArray, List.set_cons_zero, List.set_cons_succ]
    refine wpAnyH_take (i := 7) (oi := { dst := some 61, op := Op.binOp BinOp.add 3 (Operand.tmp 57) (Operand.tmp 60) 3, type := 3, pos := "outright.go:95", after := #[{ on := 3, ground := Ground.data }, { on := 6, ground := Ground.data }], guard := none }) (v := ?_) rfl (by kernel_rfl) (by kernel_rfl) (by kernel_rfl) (fun _ _ _ h => h) (Or.inl ⟨by rfl, ?_⟩) (by assumption) ?_
    rotate_left
    · ((intro wS hSw; (try dsimp only at hSw); go_simp); (try with_reducible rfl))
    simp only [Act.put, List.setIfInBounds_toArray, List.set_cons_zero, List.set_cons_succ]
    refine wpAnyH_take (i := 8) (oi := { dst := some 62, op := Op.move (Operand.tmp 9), type := 3, pos := "outright.go:95", after := #[], guard := none }) (v := ?_) rfl (by kernel_rfl) (by kernel_rfl) (by kernel_rfl) (fun _ _ _ h => h) (Or.inl ⟨by rfl, ?_⟩) (by assumption) ?_
    rotate_left
    · ((intro wS hSw; (try dsimp only at hSw); go_simp); (try with_reducible rfl))
    simp only [Act.put, List.setIfInBounds_toArray, List.set_cons_zero, List.set_cons_succ]
    refine wpAnyH_take (i := 9) (oi := { dst := some 63, op := Op.call { callee := Callee.builtin Builtin.max, args := #[Operand.tmp 62, Operand.const (Value.int IntKind.i64 0)], argTypes := #[3, 3] }, type := 3, pos := "outright.go:95", after := #[{ on := 8, ground := Ground.data }], guard := none }) (v := ?_) rfl (by kernel_rfl) (by kernel_rfl) (by kernel_rfl) (fun _ _ _ h => h) (Or.inl ⟨by rfl, ?_⟩) (by assumption) ?_
    rotate_left
    · ((intro wS hSw; (try dsimp only at hSw); go_simp); (try with_reducible rfl))
    simp only [Act.put, List.setIfInBounds_toArray, List.set_cons_zero, List.set_cons_succ]
    refine wpAnyH_take (i := 10) (oi := { dst := some 64, op := Op.indexAddr 54 (Operand.tmp 5) (Operand.const (Value.int IntKind.i64 3)), type := 0, pos := "outright.go:95", after := #[], guard := none }) (v := ?_) rfl (by kernel_rfl) (by kernel_rfl) (by kernel_rfl) (fun _ _ _ h => h) (Or.inl ⟨by rfl, ?_⟩) (by assumption) ?_
    rotate_left
    · ((intro wS hSw; (try dsimp only at hSw); go_simp); (try with_reducible rfl))
    simp only [Act.put, List.setIfInBounds_toArray, List.set_cons_zero, List.set_cons_succ]
    refine wpAnyH_take (i := 11) (oi := { dst := some 65, op := Op.load 3 (Operand.tmp 64), type := 3, pos := "outright.go:95", after := #[{ on := 10, ground := Ground.data }], guard := none }) (v := ?_) rfl (by kernel_rfl) (by kernel_rfl) (by kernel_rfl) (fun _ _ _ h => h) (Or.inl ⟨by rfl, ?_⟩) (by assumption) ?_
    rotate_left
    · ((intro wS hSw; (try dsimp only at hSw); go_simp); (try with_reducible rfl))
    simp only [Act.put, List.setIfInBounds_toArray, List.set_cons_zero, List.set_cons_succ]
    refine take_call (i := 12) (oi := { dst := some 66, op := Op.call { callee := Callee.value (Operand.func 16), args := #[Operand.tmp 65, Operand.const (Value.int IntKind.i64 100)], argTypes := #[3, 3] }, type := 3, pos := "outright.go:95", after := #[{ on := 11, ground := Ground.data }, { on := 6, ground := Ground.chain }], guard := none }) (v := .int .i64 (br100 l3)) rfl (by kernel_rfl) (by kernel_rfl) (by kernel_rfl) (fun _ _ _ h => h) (by rfl) (fun wS hSw => ⟨16, #[.int .i64 l3, .int .i64 100], ?_, (HBR.out l3 wS).mono fun e w' h => ⟨h.1, h.2.symm⟩⟩) (by assumption) ?_
    · (simp only [execOp]; go_simp)
    simp only [Act.put, List.setIfInBounds_toArray, List.set_cons_zero, List.set_cons_succ]
    refine wpAnyH_take (i := 13) (oi := { dst := some 67, op := Op.binOp BinOp.add 3 (Operand.tmp 63) (Operand.tmp 66) 3, type := 3, pos := "outright.go:95", after := #[{ on := 9, ground := Ground.data }, { on := 12, ground := Ground.data }], guard := none }) (v := ?_) rfl (by kernel_rfl) (by kernel_rfl) (by kernel_rfl) (fun _ _ _ h => h) (Or.inl ⟨by rfl, ?_⟩) (by assumption) ?_
    rotate_left
    · ((intro wS hSw; (try dsimp only at hSw); go_simp); (try with_reducible rfl))
    simp only [Act.put, List.setIfInBounds_toArray, List.set_cons_zero, List.set_cons_succ]
    refine wpAnyH_ready (rs := [14, 20]) (by kernel_rfl) (by simp) ?_
    refine AllReadyH.cons (o := { dst := some 68, op := Op.call { callee := Callee.value (Operand.func 19), args := #[Operand.tmp 54, Operand.tmp 55, Operand.tmp 61, Operand.tmp 67], argTypes := #[22, 39, 3, 3] }, type := 45, pos := "outright.go:95", after := #[{ on := 0, ground := Ground.data }, { on := 1, ground := Ground.data }, { on := 7, ground := Ground.data }, { on := 13, ground := Ground.data }, { on := 12, ground := Ground.chain }], guard := none }) rfl (fun K hK => ?_) ?_
    · (go_simp; go_at_call 19; refine (HT2.out _ zw).mono ?_; rintro e w1 ⟨kd2, nn2, uu2, ss2, A2, ma2, ca2, B2, mb2, cb2, bs2, rfl, hr2, hnd2, hge2, hb1⟩; (have HN2 := Lib.hid hr2); (have HG2 := Lib.hid hge2); (clear hr2 hge2 hnd2); dsimp only; (obtain ⟨hc1, hf1, hl1⟩ := bcell hb1); (try simp only [zdz] at hc1 hf1 hl1); (have hz1 := hb1.size); (try simp only [zsz] at hz1); (try have g0 : wu.heap.size < w1.heap.size := by omega); (have hB1 : Below wu.heap.size wu w1 := by exact zw))
      refine hK.out _ _ ?_ (fun hHeld => ?_)
      · exact HK.out _ zw
      clear hK K
      (try simp only [Act.put, List.setIfInBounds_toArray, List.set_cons_zero, List.set_cons_succ])
      refine wpAnyH_take (i := 15) (oi := { dst := some 53, op := Op.move (Operand.tmp 68), type := 45, pos := "outright.go:95", after := #[{ on := 14, ground := Ground.data }], guard := none }) (v := ?_) rfl (by kernel_rfl) (by kernel_rfl) (by kernel_rfl) (fun _ _ _ h => h) (Or.inl ⟨by rfl, ?_⟩) (by assumption) ?_
      rotate_left
      · ((intro wS hSw; (try dsimp only at hSw); go_simp); (try with_reducible rfl))
      simp only [Act.put, List.setIfInBounds_toArray, List.set_cons_zero, List.set_cons_succ]
      refine wpAnyH_take (i := 16) (oi := { dst := some 69, op := Op.extract (Operand.tmp 53) 0, type := 44, pos := "outright.go:95", after := #[{ on := 15, ground := Ground.data }], guard := none }) (v := ?_) rfl (by kernel_rfl) (by kernel_rfl) (by kernel_rfl) (fun _ _ _ h => h) (Or.inl ⟨by rfl, ?_⟩) (by assumption) ?_
      rotate_left
      · ((intro wS hSw; (try dsimp only at hSw); go_simp); (try with_reducible rfl))
      simp only [Act.put, List.setIfInBounds_toArray, List.set_cons_zero, List.set_cons_succ]
      refine wpAnyH_take (i := 17) (oi := { dst := some 70, op := Op.extract (Operand.tmp 53) 1, type := 3, pos := "outright.go:95", after := #[{ on := 15, ground := Ground.data }, { on := 21, ground := Ground.gcOnly Departure.lateStores }], guard := none }) (v := ?_) rfl (by kernel_rfl) (by kernel_rfl) (by kernel_rfl) (fun _ _ _ h => h) (Or.inl ⟨by rfl, ?_⟩) (by assumption) ?_
      rotate_left
      · ((intro wS hSw; (try dsimp only at hSw); go_simp); (try with_reducible rfl))
      simp only [Act.put, List.setIfInBounds_toArray, List.set_cons_zero, List.set_cons_succ]
      refine wpAnyH_take (i := 18) (oi := { dst := some 71, op := Op.extract (Operand.tmp 53) 2, type := 3, pos := "outright.go:95", after := #[{ on := 15, ground := Ground.data }, { on := 22, ground := Ground.gcOnly Departure.lateStores }], guard := none }) (v := ?_) rfl (by kernel_rfl) (by kernel_rfl) (by kernel_rfl) (fun _ _ _ h => h) (Or.inl ⟨by rfl, ?_⟩) (by assumption) ?_
      rotate_left
      · ((intro wS hSw; (try dsimp only at hSw); go_simp); (try with_reducible rfl))
      simp only [Act.put, List.setIfInBounds_toArray, List.set_cons_zero, List.set_cons_succ]
      refine wpAnyH_take (i := 19) (oi := { dst := some 72, op := Op.extract (Operand.tmp 53) 3, type := 26, pos := "outright.go:95", after := #[{ on := 15, ground := Ground.data }, { on := 23, ground := Ground.gcOnly Departure.lateStores }], guard := none }) (v := ?_) rfl (by kernel_rfl) (by kernel_rfl) (by kernel_rfl) (fun _ _ _ h => h) (Or.inl ⟨by rfl, ?_⟩) (by assumption) ?_
      rotate_left
      · ((intro wS hSw; (try dsimp only at hSw); go_simp); (try with_reducible rfl))
      simp only [Act.put, List.setIfInBounds_toArray, List.set_cons_zero, List.set_cons_succ]
      refine wpAnyH_ready (rs := [20]) (by kernel_rfl) (by simp) ?_
      refine AllReadyH.cons (o := { dst := some 14, op := Op.alloc 44, type := 0, pos := "outright.go:95", after := #[], guard := none }) rfl (fun K hK => ?_) ?_
      rotate_left
      · exact AllReadyH.nil
      go_simp
      refine hK.out _ _ ?_ (fun hHeld => ?_)
      · exact HK.out _ zw
      clear hK K
      (try simp only [Act.put, List.setIfInBounds_toArray, List.set_cons_zero, List.set_cons_succ])
      refine wpAnyH_ready (rs := [21]) (by kernel_rfl) (by simp) ?_
      refine AllReadyH.cons (o := { dst := none, op := Op.store 44 (Operand.tmp 14) (Operand.tmp 69), type := 0, pos := "outright.go:95", after := #[{ on := 20, ground := Ground.data }, { on := 16, ground := Ground.data }, { on := 14, ground := Ground.chain }, { on := 0, ground := Ground.phase }, { on := 1, ground := Ground.phase }, { on := 2, ground := Ground.phase }, { on := 3, ground := Ground.phase }, { on := 4, ground := Ground.phase }, { on := 5, ground := Ground.phase }, { on := 6, ground := Ground.phase }, { on := 7, ground := Ground.phase }, { on := 8, ground := Ground.phase }, { on := 9, ground := Ground.phase }, { on := 10, ground := Ground.phase }, { on := 11, ground := Ground.phase }, { on := 12, ground := Ground.phase }, { on := 13, ground := Ground.phase }, { on := 14, ground := Ground.phase }, { on := 15, ground := Ground.phase }, { on := 16, ground := Ground.phase }, { on := 17, ground := Ground.textOnly Departure.lateStores }, { on := 18, ground := Ground.textOnly Departure.lateStores }, { on := 19, ground := Ground.textOnly Departure.lateStores }, { on := 20, ground := Ground.phase }], guard := none }) rfl (fun K hK => ?_) ?_
      rotate_left
      · exact AllReadyH.nil
      go_simp
      refine hK.out _ _ ?_ (fun hHeld => ?_)
      · exact HK.out _ zw
      clear hK K
      (try simp only [Act.put, List.setIfInBounds_toArray, List.set_cons_zero, List.set_cons_succ])
      refine wpAnyH_take (i := 22) (oi := { dst := some 15, op := Op.assign (Operand.tmp 70), type := 3, pos := "outright.go:95", after := #[{ on := 17, ground := Ground.data }, { on := 21, ground := Ground.chain }, { on := 0, ground := Ground.phase }, { on := 1, ground := Ground.phase }, { on := 2, ground := Ground.phase }, { on := 3, ground := Ground.phase }, { on := 4, ground := Ground.phase }, { on := 5, ground := Ground.phase }, { on := 6, ground := Ground.phase }, { on := 7, ground := Ground.phase }, { on := 8, ground := Ground.phase }, { on := 9, ground := Ground.phase }, { on := 10, ground := Ground.phase }, { on := 11, ground := Ground.phase }, { on := 12, ground := Ground.phase }, { on := 13, ground := Ground.phase }, { on := 14, ground := Ground.phase }, { on := 15, ground := Ground.phase }, { on := 16, ground := Ground.phase }, { on := 17, ground := Ground.phase }, { on := 18, ground := Ground.textOnly Departure.lateStores }, { on := 19, ground := Ground.textOnly Departure.lateStores }, { on := 20, ground := Ground.phase }, { on := 21, ground := Ground.phase }], guard := none }) (v := ?_) rfl (by kernel_rfl) (by kernel_rfl) (by kernel_rfl) (fun _ _ _ h => h) (Or.inl ⟨by rfl, ?_⟩) (by assumption) ?_
      rotate_left
      · ((intro wS hSw; (try dsimp only at hSw); go_simp); (try with_reducible rfl))
      simp only [Act.put, List.setIfInBounds_toArray, List.set_cons_zero, List.set_cons_succ]
      refine wpAnyH_take (i := 23) (oi := { dst := some 16, op := Op.assign (Operand.tmp 71), type := 3, pos := "outright.go:95", after := #[{ on := 18, ground := Ground.data }, { on := 22, ground := Ground.chain }, { on := 0, ground := Ground.phase }, { on := 1, ground := Ground.phase }, { on := 2, ground := Ground.phase }, { on := 3, ground := Ground.phase }, { on := 4, ground := Ground.phase }, { on := 5, ground := Ground.phase }, { on := 6, ground := Ground.phase }, { on := 7, ground := Ground.phase }, { on := 8, ground := Ground.phase }, { on := 9, ground := Ground.phase }, { on := 10, ground := Ground.phase }, { on := 11, ground := Ground.phase }, { on := 12, ground := Ground.phase }, { on := 13, ground := Ground.phase }, { on := 14, ground := Ground.phase }, { on := 15, ground := Ground.phase }, { on := 16, ground := Ground.phase }, { on := 17, ground := Ground.phase }, { on := 18, ground := Ground.phase }, { on := 19, ground := Ground.textOnly Departure.lateStores }, { on := 20, ground := Ground.phase }, { on := 21, ground := Ground.phase }, { on := 22, ground := Ground.phase }], guard := none }) (v := ?_) rfl (by kernel_rfl) (by kernel_rfl) (by kernel_rfl) (fun _ _ _ h => h) (Or.inl ⟨by rfl, ?_⟩) (by assumption) ?_
      rotate_left
      · ((intro wS hSw; (try dsimp only at hSw); go_simp); (try with_reducible rfl))
      simp only [Act.put, List.setIfInBounds_toArray, List.set_cons_zero, List.set_cons_succ]
      refine wpAnyH_take (i := 24) (oi := { dst := some 17, op := Op.assign (Operand.tmp 72), type := 26, pos := "outright.go:95", after := #[{ on := 19, ground := Ground.data }, { on := 23, ground := Ground.chain }, { on := 0, ground := Ground.phase }, { on := 1, ground := Ground.phase }, { on := 2, ground := Ground.phase }, { on := 3, ground := Ground.phase }, { on := 4, ground := Ground.phase }, { on := 5, ground := Ground.phase }, { on := 6, ground := Ground.phase }, { on := 7, ground := Ground.phase }, { on := 8, ground := Ground.phase }, { on := 9, ground := Ground.phase }, { on := 10, ground := Ground.phase }, { on := 11, ground := Ground.phase }, { on := 12, ground := Ground.phase }, { on := 13, ground := Ground.phase }, { on := 14, ground := Ground.phase }, { on := 15, ground := Ground.phase }, { on := 16, ground := Ground.phase }, { on := 17, ground := Ground.phase }, { on := 18, ground := Ground.phase }, { on := 19, ground := Ground.phase }, { on := 20, ground := Ground.phase }, { on := 21, ground := Ground.phase }, { on := 22, ground := Ground.phase }, { on := 23, ground := Ground.phase }], guard := none }) (v := ?_) rfl (by kernel_rfl) (by kernel_rfl) (by kernel_rfl) (fun _ _ _ h => h) (Or.inl ⟨by rfl, ?_⟩) (by assumption) ?_
      rotate_left
      · ((intro wS hSw; (try dsimp only at hSw); go_simp); (try with_reducible rfl))
      simp only [Act.put, List.setIfInBounds_toArray, List.set_cons_zero, List.set_cons_succ]
      (refine wpAnyH_done (by kernel_rfl) ?_ _)
      refine NoPanic.normal ?_
      go_wp2_with fail
      go_meet
      exact ⟨w1.heap.size, kd2, nn2, uu2, ss2, A2, ma2, ca2, B2, mb2, cb2, bs2, rfl, rfl, rfl, rfl, by exact zw, HN2.out.below zw, heap_alloc_new _ _⟩
    refine AllReadyH.cons (o := { dst := some 14, op := Op.alloc 44, type := 0, pos := "outright.go:95", after := #[], guard := none }) rfl (fun K hK => ?_) ?_
    · go_simp
      refine hK.out _ _ ?_ (fun hHeld => ?_)
      · exact HK.out _ zw
      clear hK K
      (try simp only [Act.put, List.setIfInBounds_toArray, List.set_cons_zero, List.set_cons_succ])
      refine wpAnyH_ready (rs := [14]) (by kernel_rfl) (by simp) ?_
      refine AllReadyH.cons (o := { dst := some 68, op := Op.call { callee := Callee.value (Operand.func 19), args := #[Operand.tmp 54, Operand.tmp 55, Operand.tmp 61, Operand.tmp 67], argTypes := #[22, 39, 3, 3] }, type := 45, pos := "outright.go:95", after := #[{ on := 0, ground := Ground.data }, { on := 1, ground := Ground.data }, { on := 7, ground := Ground.data }, { on := 13, ground := Ground.data }, { on := 12, ground := Ground.chain }], guard := none }) rfl (fun K hK => ?_) ?_
      rotate_left
      · exact AllReadyH.nil
      (go_simp; go_at_call 19; refine (HT2.out _ zw).mono ?_; rintro e w1 ⟨kd2, nn2, uu2, ss2, A2, ma2, ca2, B2, mb2, cb2, bs2, rfl, hr2, hnd2, hge2, hb1⟩; (have HN2 := Lib.hid hr2); (have HG2 := Lib.hid hge2); (clear hr2 hge2 hnd2); dsimp only; (obtain ⟨hc1, hf1, hl1⟩ := bcell hb1); (try simp only [zdz] at hc1 hf1 hl1); (have hz1 := hb1.size); (try simp only [zsz] at hz1); (try have g0 : wu.heap.size < w1.heap.size := by omega); (have hB1 : Below wu.heap.size wu w1 := by exact zw))
      refine hK.out _ _ ?_ (fun hHeld => ?_)
      · exact HK.out _ zw
      clear hK K
      (try simp only [Act.put, List.setIfInBounds_toArray, List.set_cons_zero, List.set_cons_succ])
      refine wpAnyH_take (i := 15) (oi := { dst := some 53, op := Op.move (Operand.tmp 68), type := 45, pos := "outright.go:95", after := #[{ on := 14, ground := Ground.data }], guard := none }) (v := ?_) rfl (by kernel_rfl) (by kernel_rfl) (by kernel_rfl) (fun _ _ _ h => h) (Or.inl ⟨by rfl, ?_⟩) (by assumption) ?_
      rotate_left
      · ((intro wS hSw; (try dsimp only at hSw); go_simp); (try with_reducible rfl))
      simp only [Act.put, List.setIfInBounds_toArray, List.set_cons_zero, List.set_cons_succ]
      refine wpAnyH_take (i := 16) (oi := { dst := some 69, op := Op.extract (Operand.tmp 53) 0, type := 44, pos := "outright.go:95", after := #[{ on := 15, ground := Ground.data }], guard := none }) (v := ?_) rfl (by kernel_rfl) (by kernel_rfl) (by kernel_rfl) (fun _ _ _ h => h) (Or.inl ⟨by rfl, ?_⟩) (by assumption) ?_
      rotate_left
      · ((intro wS hSw; (try dsimp only at hSw); go_simp); (try with_reducible rfl))
      simp only [Act.put, List.setIfInBounds_toArray, List.set_cons_zero, List.set_cons_succ]
      refine wpAnyH_take (i := 17) (oi := { dst := some 70, op := Op.extract (Operand.tmp 53) 1, type := 3, pos := "outright.go:95", after := #[{ on := 15, ground := Ground.data }, { on := 21, ground := Ground.gcOnly Departure.lateStores }], guard := none }) (v := ?_) rfl (by kernel_rfl) (by kernel_rfl) (by kernel_rfl) (fun _ _ _ h => h) (Or.inl ⟨by rfl, ?_⟩) (by assumption) ?_
      rotate_left
      · ((intro wS hSw; (try dsimp only at hSw); go_simp); (try with_reducible rfl))
      simp only [Act.put, List.setIfInBounds_toArray, List.set_cons_zero, List.set_cons_succ]
      refine wpAnyH_take (i := 18) (oi := { dst := some 71, op := Op.extract (Operand.tmp 53) 2, type := 3, pos := "outright.go:95", after := #[{ on := 15, ground := Ground.data }, { on := 22, ground := Ground.gcOnly Departure.lateStores }], guard := none }) (v := ?_) rfl (by kernel_rfl) (by kernel_rfl) (by kernel_rfl) (fun _ _ _ h => h) (Or.inl ⟨by rfl, ?_⟩) (by assumption) ?_
      rotate_left
      · ((intro wS hSw; (try dsimp only at hSw); go_simp); (try with_reducible rfl))
      simp only [Act.put, List.setIfInBounds_toArray, List.set_cons_zero, List.set_cons_succ]
      refine wpAnyH_take (i := 19) (oi := { dst := some 72, op := Op.extract (Operand.tmp 53) 3, type := 26, pos := "outright.go:95", after := #[{ on := 15, ground := Ground.data }, { on := 23, ground := Ground.gcOnly Departure.lateStores }], guard := none }) (v := ?_) rfl (by kernel_rfl) (by kernel_rfl) (by kernel_rfl) (fun _ _ _ h => h) (Or.inl ⟨by rfl, ?_⟩) (by assumption) ?_
      rotate_left
      · ((intro wS hSw; (try dsimp only at hSw); go_simp); (try with_reducible rfl))
      simp only [Act.put, List.setIfInBounds_toArray, List.set_cons_zero, List.set_cons_succ]
      refine wpAnyH_ready (rs := [21]) (by kernel_rfl) (by simp) ?_
      refine AllReadyH.cons (o := { dst := none, op := Op.store 44 (Operand.tmp 14) (Operand.tmp 69), type := 0, pos := "outright.go:95", after := #[{ on := 20, ground := Ground.data }, { on := 16, ground := Ground.data }, { on := 14, ground := Ground.chain }, { on := 0, ground := Ground.phase }, { on := 1, ground := Ground.phase }, { on := 2, ground := Ground.phase }, { on := 3, ground := Ground.phase }, { on := 4, ground := Ground.phase }, { on := 5, ground := Ground.phase }, { on := 6, ground := Ground.phase }, { on := 7, ground := Ground.phase }, { on := 8, ground := Ground.phase }, { on := 9, ground := Ground.phase }, { on := 10, ground := Ground.phase }, { on := 11, ground := Ground.phase }, { on := 12, ground := Ground.phase }, { on := 13, ground := Ground.phase }, { on := 14, ground := Ground.phase }, { on := 15, ground := Ground.phase }, { on := 16, ground := Ground.phase }, { on := 17, ground := Ground.textOnly Departure.lateStores }, { on := 18, ground := Ground.textOnly Departure.lateStores }, { on := 19, ground := Ground.textOnly Departure.lateStores }, { on := 20, ground := Ground.phase }], guard := none }) rfl (fun K hK => ?_) ?_
      rotate_left
      · exact AllReadyH.nil
      go_simp
      refine hK.out _ _ ?_ (fun hHeld => ?_)
      · exact HK.out _ zw
      clear hK K
      (try simp only [Act.put, List.setIfInBounds_toArray, List.set_cons_zero, List.set_cons_succ])
      refine wpAnyH_take (i := 22) (oi := { dst := some 15, op := Op.assign (Operand.tmp 70), type := 3, pos := "outright.go:95", after := #[{ on := 17, ground := Ground.data }, { on := 21, ground := Ground.chain }, { on := 0, ground := Ground.phase }, { on := 1, ground := Ground.phase }, { on := 2, ground := Ground.phase }, { on := 3, ground := Ground.phase }, { on := 4, ground := Ground.phase }, { on := 5, ground := Ground.phase }, { on := 6, ground := Ground.phase }, { on := 7, ground := Ground.phase }, { on := 8, ground := Ground.phase }, { on := 9, ground := Ground.phase }, { on := 10, ground := Ground.phase }, { on := 11, ground := Ground.phase }, { on := 12, ground := Ground.phase }, { on := 13, ground := Ground.phase }, { on := 14, ground := Ground.phase }, { on := 15, ground := Ground.phase }, { on := 16, ground := Ground.phase }, { on := 17, ground := Ground.phase }, { on := 18, ground := Ground.textOnly Departure.lateStores }, { on := 19, ground := Ground.textOnly Departure.lateStores }, { on := 20, ground := Ground.phase }, { on := 21, ground := Ground.phase }], guard := none }) (v := ?_) rfl (by kernel_rfl) (by kernel_rfl) (by kernel_rfl) (fun _ _ _ h => h) (Or.inl ⟨by rfl, ?_⟩) (by assumption) ?_
      rotate_left
      · ((intro wS hSw; (try dsimp only at hSw); go_simp); (try with_reducible rfl))
      simp only [Act.put, List.setIfInBounds_toArray, List.set_cons_zero, List.set_cons_succ]
      refine wpAnyH_take (i := 23) (oi := { dst := some 16, op := Op.assign (Operand.tmp 71), type := 3, pos := "outright.go:95", after := #[{ on := 18, ground := Ground.data }, { on := 22, ground := Ground.chain }, { on := 0, ground := Ground.phase }, { on := 1, ground := Ground.phase }, { on := 2, ground := Ground.phase }, { on := 3, ground := Ground.phase }, { on := 4, ground := Ground.phase }, { on := 5, ground := Ground.phase }, { on := 6, ground := Ground.phase }, { on := 7, ground := Ground.phase }, { on := 8, ground := Ground.phase }, { on := 9, ground := Ground.phase }, { on := 10, ground := Ground.phase }, { on := 11, ground := Ground.phase }, { on := 12, ground := Ground.phase }, { on := 13, ground := Ground.phase }, { on := 14, ground := Ground.phase }, { on := 15, ground := Ground.phase }, { on := 16, ground := Ground.phase }, { on := 17, ground := Ground.phase }, { on := 18, ground := Ground.phase }, { on := 19, ground := Ground.textOnly Departure.lateStores }, { on := 20, ground := Ground.phase }, { on := 21, ground := Ground.phase }, { on := 22, ground := Ground.phase }], guard := none }) (v := ?_) rfl (by kernel_rfl) (by kernel_rfl) (by kernel_rfl) (fun _ _ _ h => h) (Or.inl ⟨by rfl, ?_⟩) (by assumption) ?_
      rotate_left
      · ((intro wS hSw; (try dsimp only at hSw); go_simp); (try with_reducible rfl))
      simp only [Act.put, List.setIfInBounds_toArray, List.set_cons_zero, List.set_cons_succ]
      refine wpAnyH_take (i := 24) (oi := { dst := some 17, op := Op.assign (Operand.tmp 72), type := 26, pos := "outright.go:95", after := #[{ on := 19, ground := Ground.data }, { on := 23, ground := Ground.chain }, { on := 0, ground := Ground.phase }, { on := 1, ground := Ground.phase }, { on := 2, ground := Ground.phase }, { on := 3, ground := Ground.phase }, { on := 4, ground := Ground.phase }, { on := 5, ground := Ground.phase }, { on := 6, ground := Ground.phase }, { on := 7, ground := Ground.phase }, { on := 8, ground := Ground.phase }, { on := 9, ground := Ground.phase }, { on := 10, ground := Ground.phase }, { on := 11, ground := Ground.phase }, { on := 12, ground := Ground.phase }, { on := 13, ground := Ground.phase }, { on := 14, ground := Ground.phase }, { on := 15, ground := Ground.phase }, { on := 16, ground := Ground.phase }, { on := 17, ground := Ground.phase }, { on := 18, ground := Ground.phase }, { on := 19, ground := Ground.phase }, { on := 20, ground := Ground.phase }, { on := 21, ground := Ground.phase }, { on := 22, ground := Ground.phase }, { on := 23, ground := Ground.phase }], guard := none }) (v := ?_) rfl (by kernel_rfl) (by kernel_rfl) (by kernel_rfl) (fun _ _ _ h => h) (Or.inl ⟨by rfl, ?_⟩) (by assumption) ?_
      rotate_left
      · ((intro wS hSw; (try dsimp only at hSw); go_simp); (try with_reducible rfl))
      simp only [Act.put, List.setIfInBounds_toArray, List.set_cons_zero, List.set_cons_succ]
      (refine wpAnyH_done (by kernel_rfl) ?_ _)
      refine NoPanic.normal ?_
      have ht6 := touch6 (w := w1) (Y := wu.heap.size) (.int .i64 kd2) (.int .i64 nn2) (.int .u64 uu2) (.string ss2) (.slice A2 ma2 ca2) (.slice B2 mb2 cb2)
      have hrow := (hb1.block wu.heap.size (by simp)).trans (heap_alloc_new wu _)
      go_wp2_with fail
      go_meet
      exact ⟨wu.heap.size, kd2, nn2, uu2, ss2, A2, ma2, ca2, B2, mb2, cb2, bs2, rfl, rfl, rfl, rfl, by exact zw, HN2.out.same _ _ _ fun i hi => ht6.block i (HN2.out.bd _ _ _ i hi) (by have := HG2.out i hi; simp at this ⊢; omega), set6row hrow⟩
    exact AllReadyH.nil
  case rest =>
  obtain ⟨Z, kd2, nn2, uu2, ss2, A2, ma2, ca2, B2, mb2, cb2, bs2, rfl, rfl, rfl, rfl, hbZ, hN2, hZ⟩ := hcut
  have HF := Lib.hid (show FF wu v L G Y #[.int .i64 p, .int .i64 q, .int .i64 t, .int .i64 k] #[.int .i64 l0, .int .i64 l1, .int .i64 l2, .int .i64 l3] T (.int .i64 kd1) (.int .i64 nn1) (.int .u64 uu1) (.string ss1) (.slice A1 ma1 ca1) (.slice B1 mb1 cb1) bs1 from ⟨hvu, hRu, hDu, hY, HN1.out⟩)
  have hbwx := hbwu.trans (hbZ.mono hbwu.size)
  clear r0 r1 r2 r3 d0 d1 d2 d3 hRu hDu hY HN1 hvu HV hbu hv hb0 hR hD2 gG gG1 gY HRR hm hdp
  obtain ⟨l1, l2⟩ := HLaw.out
  clear HLaw
  by_cases her : er = 0
  · subst her
    clear l1
    obtain ⟨rfl, rfl, hleft, hn2, hs1, hs2, hd1, hd2, ⟨a3, h3⟩, h4, h5⟩ := l2 rfl
    have HT3 := Lib.hid (fun (W : World) (hW : Byt W v L) => h3 ▸ HT.out v dp (sizeD U - 1) (by omega) W hW)
    have HT4 := Lib.hid (fun (W : World) (hW : Byt W v L) => h4 ▸ HT.out v (depthD U) (sizeD U) (by omega) W hW)
    have HT5 := Lib.hid (fun (W : World) (hW : Byt W v L) => HT.out v (depthD U - 1) (sizeD U) (by omega) W hW)
    obtain ⟨V5, f5, a5, e5, h5r⟩ : ∃ V5 f5 a5 e5, treeD L (depthD U - 1) (sizeD U) p q t k = (V5, f5, a5, e5) := ⟨_, _, _, _, rfl⟩
    rw [h5r] at HT5 h5
    have h5n : (e5 != 0) = true := by simpa using h5
    have HSz := Lib.hid (fun (W : World) (h : NRep W U [.int .i64 kd1, .int .i64 nn1, .int .u64 uu1, .string ss1, .slice A1 ma1 ca1, .slice B1 mb1 cb1] bs1) => size_any U _ _ _ _ _ _ bs1 W h (by omega) (by omega))
    have HDp := Lib.hid (fun (W : World) (h : NRep W U [.int .i64 kd1, .int .i64 nn1, .int .u64 uu1, .string ss1, .slice A1 ma1 ca1, .slice B1 mb1 cb1] bs1) => deep_any U _ _ _ _ _ _ bs1 W h (by omega) (by omega))
    clear l2 h3 h4 h5 h5r HT HR
    have q4 : IntKind.i64.wrap (m - sizeD U) = m - sizeD U := IntWalk.i64_in _ (by omega)
    have q5 : IntKind.i64.wrap (left + (br100 l3)) = left + (br100 l3) := IntWalk.i64_in _ (by omega)
    have q6 : IntKind.i64.wrap (sizeD U - 1) = sizeD U - 1 := IntWalk.i64_in _ (by omega)
    have q7 : IntKind.i64.wrap (depthD U - 1) = depthD U - 1 := IntWalk.i64_in _ (by omega)
    have HN2 := Lib.hid hN2
    clear hN2
    go_upto_region 7 with fail
    refine wp_named (fun W => Below w.heap.size w W ∧ FF W v L G Y #[.int .i64 p, .int .i64 q, .int .i64 t, .int .i64 k] #[.int .i64 l0, .int .i64 l1, .int .i64 l2, .int .i64 l3] U (.int .i64 kd1) (.int .i64 nn1) (.int .u64 uu1) (.string ss1) (.slice A1 ma1 ca1) (.slice B1 mb1 cb1) bs1 ∧ W.heap[Z]? = some (.cells #[.int .i64 kd2, .int .i64 nn2, .int .u64 uu2, .string ss2, .slice A2 ma2 ca2, .slice B2 mb2 cb2] 44 (0, 0)) ∧ NRep W U [.int .i64 kd2, .int .i64 nn2, .int .u64 uu2, .string ss2, .slice A2 ma2 ca2, .slice B2 mb2 cb2] bs2) ⟨hbwx, HF.out.below hbZ, hZ, HN2.out⟩ ?_
    clear HF HN2 hZ hbZ hbwx
    rintro wa ⟨hba, hFa, hZa, hNa⟩
    have hza := hba.size
    obtain ⟨y0, y1, y2, y3, y4, y5⟩ := cells6 hFa.row
    have gY : Y < wa.heap.size := (Array.getElem?_eq_some_iff.1 hFa.row).1
    have HFa := Lib.hid hFa
    have HNa := Lib.hid hNa
    have HZa := Lib.hid hZa
    clear hFa hNa hZa
    go_wp2_with fail
    refine (HSz.out _ HFa.out.rep).mono ?_
    rintro e wb ⟨rfl, hbb⟩
    go_upto_region 8 with fail
    refine wp_named (fun W => Below w.heap.size w W ∧ FF W v L G Y #[.int .i64 p, .int .i64 q, .int .i64 t, .int .i64 k] #[.int .i64 l0, .int .i64 l1, .int .i64 l2, .int .i64 l3] U (.int .i64 kd1) (.int .i64 nn1) (.int .u64 uu1) (.string ss1) (.slice A1 ma1 ca1) (.slice B1 mb1 cb1) bs1 ∧ W.heap[Z]? = some (.cells #[.int .i64 kd2, .int .i64 nn2, .int .u64 uu2, .string ss2, .slice A2 ma2 ca2, .slice B2 mb2 cb2] 44 (0, 0)) ∧ NRep W U [.int .i64 kd2, .int .i64 nn2, .int .u64 uu2, .string ss2, .slice A2 ma2 ca2, .slice B2 mb2 cb2] bs2) ⟨by exact zw, HFa.out.below hbb, below_row HZa.out hbb, HNa.out.below hbb⟩ ?_
    clear HFa HNa HZa y0 y1 y2 y3 y4 y5 gY hba hza hbb
    rintro wc ⟨hbc, hFc, hZc, hNc⟩
    have hzc := hbc.size
    obtain ⟨y0, y1, y2, y3, y4, y5⟩ := cells6 hFc.row
    obtain ⟨z0, z1, z2, z3, z4, z5⟩ := cells6 hZc
    have HEq := Lib.hid (eqnode_true U wc _ _ _ _ _ _ _ _ _ _ _ _ _ _ hFc.rep hNc)
    have HFc := Lib.hid hFc
    clear hFc hZc hNc
    subst hleft
    subst hn2
    go_wp2_with fail
    refine HEq.out.mono ?_
    rintro e wd ⟨rfl, hbd⟩
    have HFd := Lib.hid (HFc.out.below hbd)
    have hb2 := hbc.trans (hbd.mono hzc)
    have hz2 := hb2.size
    obtain ⟨d0, d1, d2, d3⟩ := cells4 HFd.out.num
    clear y0 y1 y2 y3 y4 y5 z0 z1 z2 z3 z4 z5 HFc hbc hbd HEq
    go_wp2_with fail
    refine (HBR.out _ _).mono ?_
    rintro e we ⟨rfl, rfl⟩
    go_upto_region 10 with fail
    clear d0 d1 d2 d3 q4 q5
    obtain ⟨r0, r1, r2, r3⟩ := cells4 HFd.out.ref
    go_wp2_with fail
    refine (HT3.out _ HFd.out.byt).mono ?_
    rintro e wf ⟨kd3, nn3, uu3, ss3, A3, ma3, ca3, B3, mb3, cb3, bs3, rfl, -, -, -, hb3⟩
    dsimp only
    have hz3 := hb3.size
    go_upto_region 11 with fail
    refine wp_named (fun W => Below wd.heap.size wd W) zw ?_
    clear r0 r1 r2 r3 HT3 hz3 hb3
    rintro wg hbg
    have HFg := Lib.hid (HFd.out.below hbg)
    have hbwg := hb2.trans (hbg.mono hz2)
    clear HFd hbg hb2 hz2
    have hzg := hbwg.size
    obtain ⟨r0, r1, r2, r3⟩ := cells4 HFg.out.ref
    obtain ⟨y0, y1, y2, y3, y4, y5⟩ := cells6 HFg.out.row
    have gG : G < wg.heap.size := (Array.getElem?_eq_some_iff.1 HFg.out.ref).1
    have gY : Y < wg.heap.size := (Array.getElem?_eq_some_iff.1 HFg.out.row).1
    go_cut [23, 24, 26] (fun s23 s24 s26 wx => ∃ Z kd4 nn4 uu4 ss4 A4 ma4 ca4 B4 mb4 cb4 bs, s23 = .pointer (some ⟨Z, 0, none⟩) ∧ s24 = .int .i64 0 ∧ s26 = .int .i64 0 ∧ Below wg.heap.size wg wx ∧ NRep wx U [.int .i64 kd4, .int .i64 nn4, .int .u64 uu4, .string ss4, .slice A4 ma4 ca4, .slice B4 mb4 cb4] bs ∧ wx.heap[Z]? = some (.cells #[.int .i64 kd4, .int .i64 nn4, .int .u64 uu4, .string ss4, .slice A4 ma4 ca4, .slice B4 mb4 cb4] 44 (0, 0)))
    case first =>
      have HK := Lib.hid (fun (W : World) (h : Below wg.heap.size wg W) => (⟨h, (h.cell (p := ⟨G, 0, none⟩) gG).trans r0, (h.cell (p := ⟨G, 1, none⟩) gG).trans r1, (h.cell (p := ⟨G, 2, none⟩) gG).trans r2, (h.cell (p := ⟨G, 3, none⟩) gG).trans r3, (h.cell (p := ⟨Y, 0, none⟩) gY).trans y0, (h.cell (p := ⟨Y, 1, none⟩) gY).trans y1, (h.cell (p := ⟨Y, 2, none⟩) gY).trans y2, (h.cell (p := ⟨Y, 3, none⟩) gY).trans y3, (h.cell (p := ⟨Y, 4, none⟩) gY).trans y4, (h.cell (p := ⟨Y, 5, none⟩) gY).trans y5⟩ : Below wg.heap.size wg W ∧ W.cell? ⟨G, 0, none⟩ = some (.int .i64 p) ∧ W.cell? ⟨G, 1, none⟩ = some (.int .i64 q) ∧ W.cell? ⟨G, 2, none⟩ = some (.int .i64 t) ∧ W.cell? ⟨G, 3, none⟩ = some (.int .i64 k) ∧ W.cell? ⟨Y, 0, none⟩ = some (.int .i64 kd1) ∧ W.cell? ⟨Y, 1, none⟩ = some (.int .i64 nn1) ∧ W.cell? ⟨Y, 2, none⟩ = some (.int .u64 uu1) ∧ W.cell? ⟨Y, 3, none⟩ = some (.string ss1) ∧ W.cell? ⟨Y, 4, none⟩ = some (.slice A1 ma1 ca1) ∧ W.cell? ⟨Y, 5, none⟩ = some (.slice B1 mb1 cb1)))
      have hB := Below.refl wg.heap.size wg
      have HD1 := Lib.hid (fun (W : World) (h : Below wg.heap.size wg W) => HDp.out W (HFg.out.below h).rep)
      have HT1 := Lib.hid (fun (W : World) (h : Below wg.heap.size wg W) => HT4.out W (HFg.out.below h).byt)
      clear HT4 HT5 HDp HFg hbwg
      go_region_held3 (fun w' => Below wg.heap.size wg w' ∧ w'.cell? ⟨G, 0, none⟩ = some (.int .i64 p) ∧ w'.cell? ⟨G, 1, none⟩ = some (.int .i64 q) ∧ w'.cell? ⟨G, 2, none⟩ = some (.int .i64 t) ∧ w'.cell? ⟨G, 3, none⟩ = some (.int .i64 k) ∧ w'.cell? ⟨Y, 0, none⟩ = some (.int .i64 kd1) ∧ w'.cell? ⟨Y, 1, none⟩ = some (.int .i64 nn1) ∧ w'.cell? ⟨Y, 2, none⟩ = some (.int .u64 uu1) ∧ w'.cell? ⟨Y, 3, none⟩ = some (.string ss1) ∧ w'.cell? ⟨Y, 4, none⟩ = some (.slice A1 ma1 ca1) ∧ w'.cell? ⟨Y, 5, none⟩ = some (.slice B1 mb1 cb1)) (exact HK.out _ zw) ((first | (go_at_call 26; refine (HD1.out _ zw).mono ?_; rintro e w6 ⟨rfl, hb6⟩; obtain ⟨hc6, hf6, hl6⟩ := bcell hb6; (try simp only [zdz] at hc6 hf6 hl6); have hz6 := hb6.size; (try simp only [zsz] at hz6); (have hB6 : Below wg.heap.size wg w6 := by exact zw)) | (go_at_call 19; refine (HT1.out _ zw).mono ?_; rintro e w1 ⟨kd4, nn4, uu4, ss4, A4, ma4, ca4, B4, mb4, cb4, bs4, rfl, hr4, hnd4, hge4, hb1⟩; (have HN4 := Lib.hid hr4); (have HG4 := Lib.hid hge4); (clear hr4 hge4 hnd4); dsimp only; (obtain ⟨hc1, hf1, hl1⟩ := bcell hb1); (try simp only [zdz] at hc1 hf1 hl1); (have hz1 := hb1.size); (try simp only [zsz] at hz1); (have hB1 : Below wg.heap.size wg w1 := by exact zw))))
      · go_wp2_with fail
        go_meet
        exact ⟨w1.heap.size, kd4, nn4, uu4, ss4, A4, ma4, ca4, B4, mb4, cb4, bs4, rfl, rfl, rfl, by exact zw, HN4.out.below zw, heap_alloc_new _ _⟩
      · have ht6 := touch6 (w := w1) (Y := w6.heap.size) (.int .i64 kd4) (.int .i64 nn4) (.int .u64 uu4) (.string ss4) (.slice A4 ma4 ca4) (.slice B4 mb4 cb4)
        have hrow := (hb1.block w6.heap.size (by simp)).trans (heap_alloc_new w6 _)
        go_wp2_with fail
        go_meet
        exact ⟨w6.heap.size, kd4, nn4, uu4, ss4, A4, ma4, ca4, B4, mb4, cb4, bs4, rfl, rfl, rfl, by exact zw, HN4.out.same _ _ _ fun i hi => ht6.block i (HN4.out.bd _ _ _ i hi) (by have := HG4.out i hi; simp at this ⊢; omega), set6row hrow⟩
      · have ht6 := touch6 (w := w1) (Y := wg.heap.size) (.int .i64 kd4) (.int .i64 nn4) (.int .u64 uu4) (.string ss4) (.slice A4 ma4 ca4) (.slice B4 mb4 cb4)
        have hzl : wg.heap.size < w6.heap.size := by omega
        have hrow := (hb1.block wg.heap.size hzl).trans ((hb6.block wg.heap.size (by simp)).trans (heap_alloc_new wg _))
        go_wp2_with fail
        go_meet
        exact ⟨wg.heap.size, kd4, nn4, uu4, ss4, A4, ma4, ca4, B4, mb4, cb4, bs4, rfl, rfl, rfl, by exact zw, HN4.out.same _ _ _ fun i hi => ht6.block i (HN4.out.bd _ _ _ i hi) (by have := HG4.out i hi; simp at this ⊢; omega), set6row hrow⟩
    case rest =>
      obtain ⟨Z4, kd4, nn4, uu4, ss4, A4, ma4, ca4, B4, mb4, cb4, bs4, rfl, rfl, rfl, hb4, hN4, hZ4⟩ := hcut
      have HN4 := Lib.hid hN4
      have HFx := Lib.hid (HFg.out.below hb4)
      have hb0x := hbwg.trans (hb4.mono hzg)
      go_upto_region 12 with fail
      refine wp_named (fun W => Below w.heap.size w W ∧ FF W v L G Y #[.int .i64 p, .int .i64 q, .int .i64 t, .int .i64 k] #[.int .i64 l0, .int .i64 l1, .int .i64 l2, .int .i64 l3] U (.int .i64 kd1) (.int .i64 nn1) (.int .u64 uu1) (.string ss1) (.slice A1 ma1 ca1) (.slice B1 mb1 cb1) bs1 ∧ W.heap[Z4]? = some (.cells #[.int .i64 kd4, .int .i64 nn4, .int .u64 uu4, .string ss4, .slice A4 ma4 ca4, .slice B4 mb4 cb4] 44 (0, 0)) ∧ NRep W U [.int .i64 kd4, .int .i64 nn4, .int .u64 uu4, .string ss4, .slice A4 ma4 ca4, .slice B4 mb4 cb4] bs4) ⟨hb0x, HFx.out, hZ4, HN4.out⟩ ?_
      clear HFx HN4 hN4 hZ4 hb0x hb4 HFg hbwg hzg r0 r1 r2 r3 y0 y1 y2 y3 y4 y5 gG gY HT4
      rintro wg ⟨hbwg, hFg, hZ4, hN4⟩
      have HFg := Lib.hid hFg
      have HN4 := Lib.hid hN4
      have HZ4 := Lib.hid hZ4
      clear hFg hN4 hZ4
      have hzg := hbwg.size
      obtain ⟨r0, r1, r2, r3⟩ := cells4 HFg.out.ref
      obtain ⟨y0, y1, y2, y3, y4, y5⟩ := cells6 HFg.out.row
      have gG : G < wg.heap.size := (Array.getElem?_eq_some_iff.1 HFg.out.ref).1
      have gY : Y < wg.heap.size := (Array.getElem?_eq_some_iff.1 HFg.out.row).1
      go_cut [30] (fun s30 wx => s30 = .int .i64 e5 ∧ Below wg.heap.size wg wx)
      case first =>
        have HK := Lib.hid (fun (W : World) (h : Below wg.heap.size wg W) => (⟨h, (h.cell (p := ⟨G, 0, none⟩) gG).trans r0, (h.cell (p := ⟨G, 1, none⟩) gG).trans r1, (h.cell (p := ⟨G, 2, none⟩) gG).trans r2, (h.cell (p := ⟨G, 3, none⟩) gG).trans r3, (h.cell (p := ⟨Y, 0, none⟩) gY).trans y0, (h.cell (p := ⟨Y, 1, none⟩) gY).trans y1, (h.cell (p := ⟨Y, 2, none⟩) gY).trans y2, (h.cell (p := ⟨Y, 3, none⟩) gY).trans y3, (h.cell (p := ⟨Y, 4, none⟩) gY).trans y4, (h.cell (p := ⟨Y, 5, none⟩) gY).trans y5⟩ : Below wg.heap.size wg W ∧ W.cell? ⟨G, 0, none⟩ = some (.int .i64 p) ∧ W.cell? ⟨G, 1, none⟩ = some (.int .i64 q) ∧ W.cell? ⟨G, 2, none⟩ = some (.int .i64 t) ∧ W.cell? ⟨G, 3, none⟩ = some (.int .i64 k) ∧ W.cell? ⟨Y, 0, none⟩ = some (.int .i64 kd1) ∧ W.cell? ⟨Y, 1, none⟩ = some (.int .i64 nn1) ∧ W.cell? ⟨Y, 2, none⟩ = some (.int .u64 uu1) ∧ W.cell? ⟨Y, 3, none⟩ = some (.string ss1) ∧ W.cell? ⟨Y, 4, none⟩ = some (.slice A1 ma1 ca1) ∧ W.cell? ⟨Y, 5, none⟩ = some (.slice B1 mb1 cb1)))
        have hB := Below.refl wg.heap.size wg
        have HD1 := Lib.hid (fun (W : World) (h : Below wg.heap.size wg W) => HDp.out W (HFg.out.below h).rep)
        have HT1 := Lib.hid (fun (W : World) (h : Below wg.heap.size wg W) => HT5.out W (HFg.out.below h).byt)
        clear HT5 HDp HFg hbwg HN4 HZ4
        go_region_held3 (fun w' => Below wg.heap.size wg w' ∧ w'.cell? ⟨G, 0, none⟩ = some (.int .i64 p) ∧ w'.cell? ⟨G, 1, none⟩ = some (.int .i64 q) ∧ w'.cell? ⟨G, 2, none⟩ = some (.int .i64 t) ∧ w'.cell? ⟨G, 3, none⟩ = some (.int .i64 k) ∧ w'.cell? ⟨Y, 0, none⟩ = some (.int .i64 kd1) ∧ w'.cell? ⟨Y, 1, none⟩ = some (.int .i64 nn1) ∧ w'.cell? ⟨Y, 2, none⟩ = some (.int .u64 uu1) ∧ w'.cell? ⟨Y, 3, none⟩ = some (.string ss1) ∧ w'.cell? ⟨Y, 4, none⟩ = some (.slice A1 ma1 ca1) ∧ w'.cell? ⟨Y, 5, none⟩ = some (.slice B1 mb1 cb1)) (exact HK.out _ zw) ((first | (go_at_call 26; refine (HD1.out _ zw).mono ?_; rintro e w6 ⟨rfl, hb6⟩; obtain ⟨hc6, hf6, hl6⟩ := bcell hb6; (try simp only [zdz] at hc6 hf6 hl6); have hz6 := hb6.size; (try simp only [zsz] at hz6); (have hB6 : Below wg.heap.size wg w6 := by exact zw)) | (go_at_call 19; refine (HT1.out _ zw).mono ?_; rintro e w1 ⟨kd5, nn5, uu5, ss5, A5, ma5, ca5, B5, mb5, cb5, bs5, rfl, -, -, -, hb1⟩; dsimp only; (obtain ⟨hc1, hf1, hl1⟩ := bcell hb1); (try simp only [zdz] at hc1 hf1 hl1); (have hz1 := hb1.size); (try simp only [zsz] at hz1); (have hB1 : Below wg.heap.size wg w1 := by exact zw))))
        all_goals (go_wp2_with fail; go_meet; exact ⟨rfl, by exact zw⟩)
      case rest =>
      obtain ⟨rfl, hb5⟩ := hcut
      have HFx := Lib.hid (HFg.out.below hb5)
      have hb0x := hbwg.trans (hb5.mono hzg)
      go_upto_region 13 with fail
      refine wp_named (fun W => Below w.heap.size w W ∧ FF W v L G Y #[.int .i64 p, .int .i64 q, .int .i64 t, .int .i64 k] #[.int .i64 l0, .int .i64 l1, .int .i64 l2, .int .i64 l3] U (.int .i64 kd1) (.int .i64 nn1) (.int .u64 uu1) (.string ss1) (.slice A1 ma1 ca1) (.slice B1 mb1 cb1) bs1 ∧ W.heap[Z4]? = some (.cells #[.int .i64 kd4, .int .i64 nn4, .int .u64 uu4, .string ss4, .slice A4 ma4 ca4, .slice B4 mb4 cb4] 44 (0, 0)) ∧ NRep W U [.int .i64 kd4, .int .i64 nn4, .int .u64 uu4, .string ss4, .slice A4 ma4 ca4, .slice B4 mb4 cb4] bs4) ⟨hb0x, HFx.out, below_row HZ4.out hb5, HN4.out.below hb5⟩ ?_
      clear HFx HN4 HZ4 hb0x hb5 HFg hbwg hzg r0 r1 r2 r3 y0 y1 y2 y3 y4 y5 gG gY HT5 HDp
      rintro wh ⟨hbh, hFh, hZh, hNh⟩
      have hzh := hbh.size
      obtain ⟨y0, y1, y2, y3, y4, y5⟩ := cells6 hFh.row
      obtain ⟨z0, z1, z2, z3, z4, z5⟩ := cells6 hZh
      have HEq := Lib.hid (eqnode_true U wh _ _ _ _ _ _ _ _ _ _ _ _ _ _ hNh hFh.rep)
      clear hFh hZh hNh
      go_wp2_with fail
      refine HEq.out.mono ?_
      rintro e wi ⟨rfl, hbi⟩
      have hb9 := hbh.trans (hbi.mono hzh)
      have hz9 := hb9.size
      clear y0 y1 y2 y3 y4 y5 z0 z1 z2 z3 z4 z5 hbi HEq hbh
      go_wp2_with fail
      refine (works_true _).mono ?_
      rintro e wj ⟨rfl, hbj⟩
      have hb99 := hb9.trans (hbj.mono hz9)
      go_wp2_with fail
      go_returns
      exact ⟨rfl, hb99⟩
  · have hne := l1 her
    have her' : (er != 0) = true := by simpa using her
    have hone : (er == 260) = true ∨ ((er == 260) = false ∧ (er == 61) = true) ∨ ((er == 260) = false ∧ (er == 61) = false ∧ er2 = er) := by
      by_cases h1 : er = 260
      · exact .inl (by simpa using h1)
      by_cases h2 : er = 61
      · exact .inr (.inl ⟨by simpa using h1, by simpa using h2⟩)
      rcases hne with h | h | h
      · exact absurd h h1
      · exact absurd h h2
      · exact .inr (.inr ⟨by simpa using h1, by simpa using h2, h⟩)
    clear l1 l2 hne HT HR HF hN2 hZ hbZ her
    have hzx := hbwx.size
    rcases hone with ho | ⟨ho, ho2⟩ | ⟨ho, ho2, rfl⟩
    all_goals
      go_wp2_with fail
      refine (works_true _).mono ?_
      rintro e wj ⟨rfl, hbj⟩
      have hb99 := hbwx.trans (hbj.mono hzx)
      go_wp2_with fail
      go_returns
      exact ⟨rfl, hb99⟩
end Go.Proofs.Ytmpflnlajakibaa
